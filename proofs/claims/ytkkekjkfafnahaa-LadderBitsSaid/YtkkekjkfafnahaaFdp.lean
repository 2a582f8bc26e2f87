/- The plain law of the package field: numbers out of bytes, small numbers, roots; no condition but that parts are parts. -/
import Derived.Test.YtkkekjkfafnahaaFdo
noncomputable section
namespace Go.Proofs.Ytkkekjkfafnahaa.Fd
open Go Go.RowKit RX
theorem wordF_val (s : ByteArray) : ∀ m, m ≤ 8 → wordF s m = valS s m
  | 0, _ => rfl
  | m + 1, h => by
    have ih := wordF_val s m (by omega)
    obtain ⟨h1, h2⟩ := valS_range s m
    have hb := sbyte_le s (m : Nat)
    have e2 : (256 : Int) ^ m = 2 ^ (8 * m) := by rw [Int.pow_mul]; rfl
    simp only [wordF]
    rw [ih, valS_succ, IntWalk.u64_in (sbyte s m) (by omega), or_byte64 (by omega) ⟨h1, by rw [← e2]; exact h2⟩ hb, e2]
theorem word_at (s : ByteArray) {n : Nat} (hn : n + 8 ≤ 32) : valS s (n + 8) = valS s n + 256 ^ n * wordF (s.extract n 32) 8 := by
  have e : val 256 ((List.range 8).map fun (i : Nat) => sbyte s (n + i : Nat)) 8 = valS (s.extract n 32) 8 := by
    unfold valS
    exact val_congr fun i hi => by rw [getD_map_range hi, getD_map_range hi, sbyte_extract (by omega)]
  have h := valS_add s n 8 (Nat.le_refl 8)
  rw [e] at h
  rw [wordF_val _ 8 (Nat.le_refl 8)]
  exact h
theorem or_parts {x y : Int} {k : Nat} (hk : k ≤ 63) (hx : 0 ≤ x ∧ x < 2 ^ k) (hy : 0 ≤ y) : orI .u64 x (shlI .u64 y k) = x + (y * 2 ^ k) % 18446744073709551616 := by
  obtain ⟨x', rfl⟩ := Int.eq_ofNat_of_zero_le hx.1
  obtain ⟨y', rfl⟩ := Int.eq_ofNat_of_zero_le hy
  have hx' : x' < 2 ^ k := by have := hx.2; exact_mod_cast this
  obtain ⟨d, hd⟩ : ∃ d, k + d = 64 := ⟨64 - k, by omega⟩
  have e64 : 2 ^ k * 2 ^ d = 18446744073709551616 := by rw [← Nat.pow_add, hd]
  obtain ⟨z, hz⟩ : ∃ z : Nat, z = y' * 2 ^ k := ⟨_, rfl⟩
  have hz' : (y' : Int) * 2 ^ k = (z : Int) := by rw [hz]; push_cast; rfl
  have hm : z % 18446744073709551616 = 2 ^ k * (y' % 2 ^ d) := by
    rw [hz, ← e64, Nat.mul_comm y', Nat.mul_mod_mul_left]
  have hlt : y' % 2 ^ d < 2 ^ d := Nat.mod_lt _ (Nat.pow_pos (by decide))
  have hle : 2 ^ k * (y' % 2 ^ d) + x' < 18446744073709551616 := by
    rw [← e64]
    have : 2 ^ k * (y' % 2 ^ d) + 2 ^ k ≤ 2 ^ k * 2 ^ d := by
      rw [← Nat.mul_succ]
      exact Nat.mul_le_mul_left _ hlt
    omega
  have e1 : shlI .u64 (y' : Int) k = ((2 ^ k * (y' % 2 ^ d) : Nat) : Int) := by
    unfold shlI
    rw [Nat.min_eq_left (by show k ≤ 64; omega), hz', IntKind.wrap_u64, ← hm]
    omega
  have e2 : ((y' : Int) * 2 ^ k) % 18446744073709551616 = ((2 ^ k * (y' % 2 ^ d) : Nat) : Int) := by
    rw [← hm, hz']
    omega
  rw [e1, e2, or_comm_u64, or_add k hx' hle, Int.natCast_add]
  exact Int.add_comm _ _
theorem ofF_ok (s : ByteArray) : Rep (ofF s) (valS s 32) := by
  have w0 := wordF_val s 8 (by omega)
  have w1 := word_at s (n := 8) (by omega)
  have w2 := word_at s (n := 16) (by omega)
  have w3 := word_at s (n := 24) (by omega)
  have r0 := valS_range s 8
  have r1 := valS_range (s.extract 8 32) 8
  have r2 := valS_range (s.extract 16 32) 8
  have r3 := valS_range (s.extract 24 32) 8
  rw [← wordF_val _ 8 (by omega)] at r0 r1 r2 r3
  rw [← w0] at w1
  have e8 : (256 : Int) ^ 8 = 18446744073709551616 := by decide
  have e16 : (256 : Int) ^ 16 = 340282366920938463463374607431768211456 := by decide
  have e24 : (256 : Int) ^ 24 = 6277101735386680763835789423207666416102355444464034512896 := by decide
  rw [e8] at w1 r0 r1 r2 r3
  rw [e16] at w2
  rw [e24] at w3
  unfold ofF
  dsimp only
  generalize wordF s 8 = a at *
  generalize wordF (s.extract 8 32) 8 = b at *
  generalize wordF (s.extract 16 32) 8 = c at *
  generalize wordF (s.extract 24 32) 8 = d at *
  have s51 : shrI .u64 a 51 = a / 2251799813685248 := by rw [shrI_eq _ _ (by decide)]; rfl
  have s38 : shrI .u64 b 38 = b / 274877906944 := by rw [shrI_eq _ _ (by decide)]; rfl
  have s25 : shrI .u64 c 25 = c / 33554432 := by rw [shrI_eq _ _ (by decide)]; rfl
  have s12 : shrI .u64 d 12 = d / 4096 := by rw [shrI_eq _ _ (by decide)]; rfl
  have p13 : (2 : Int) ^ 13 = 8192 := by decide
  have p26 : (2 : Int) ^ 26 = 67108864 := by decide
  have p39 : (2 : Int) ^ 39 = 549755813888 := by decide
  have o1 := or_parts (x := a / 2251799813685248) (y := b) (k := 13) (by omega) (by rw [p13]; omega) r1.1
  have o2 := or_parts (x := b / 274877906944) (y := c) (k := 26) (by omega) (by rw [p26]; omega) r2.1
  have o3 := or_parts (x := c / 33554432) (y := d) (k := 39) (by omega) (by rw [p39]; omega) r3.1
  rw [s51, s38, s25, s12, o1, o2, o3, and51, and51, and51, and51, p13, p26, p39]
  obtain ⟨h1, h2⟩ := restF_ok (v := [a % W51, (a / 2251799813685248 + b * 8192 % 18446744073709551616) % W51, (b / 274877906944 + c * 67108864 % 18446744073709551616) % W51, (c / 33554432 + d * 549755813888 % 18446744073709551616) % W51, d / 4096]) (by
    refine dig5 ?_ ?_ ?_ ?_ ?_ <;> (simp only [List.getD_cons_zero, List.getD_cons_succ]; (try unfold W51); omega))
  refine ⟨h1, h2.trans ?_⟩
  congr 1
  rw [val5]
  simp only [List.getD_cons_zero, List.getD_cons_succ]
  rw [w3, w2, w1]
  unfold W51
  omega
theorem zeroF_can : Rep zeroF 0 := ⟨⟨digB_is (by kernel_rfl), by decide⟩, by decide⟩
theorem two_parts {u : Int} (h : 0 ≤ u ∧ u < 18446744073709551616) : Rep (restF [andI .u64 u maskF, shrI .u64 u 51, 0, 0, 0]) u := by
  rw [and51, shr51]
  obtain ⟨h1, h2⟩ := restF_ok (v := [u % W51, u / W51, 0, 0, 0]) (by
    refine dig5 ?_ ?_ ?_ ?_ ?_ <;> (simp only [List.getD_cons_zero, List.getD_cons_succ]; (try unfold W51); omega))
  refine ⟨h1, h2.trans ?_⟩
  congr 1
  rw [val5]
  simp only [List.getD_cons_zero, List.getD_cons_succ]
  unfold W51
  omega
theorem smallF_ok {n : Int} (h : -9223372036854775808 ≤ n ∧ n ≤ 9223372036854775807) : Rep (smallF n) n := by
  by_cases hn : n < 0
  · have hu : IntKind.u64.wrap (IntKind.u64.wrap (IntKind.i64.wrap (0 - IntKind.i64.wrap (n + 1))) + 1) = -n := by
      rw [IntWalk.i64_in (n + 1) (by omega), IntWalk.i64_in (0 - _) (by omega), IntWalk.u64_in (0 - _) (by omega), IntWalk.u64_in _ (by omega)]
      omega
    have h1 := zeroF_can.sub (two_parts (u := -n) (by omega))
    rw [show 0 - -n = n by omega] at h1
    refine h1.of fun i hi => ?_
    unfold smallF
    rw [getD_map_range hi, hu, decide_eq_true hn]
    rfl
  · have hu : IntKind.u64.wrap n = n := IntWalk.u64_in _ (by omega)
    refine (two_parts (u := n) (by omega)).of fun i hi => ?_
    unfold smallF
    rw [getD_map_range hi, hu, decide_eq_false hn]
    rfl
theorem small5_ok {n : Int} (h : -9223372036854775808 ≤ n ∧ n ≤ 9223372036854775807) : Rep (small5 n) n := (smallF_ok h).toLen

/-! ### Roots, as numbers -/
def eG : Nat := 2 ^ 252 - 2
def eI : Nat := 2 ^ 253 - 5
def gV (x : Int) : Int := x ^ eG
def iV : Int := 2 ^ eI
def fV (x : Int) : Int := if gV x * gV x % pF = x % pF then gV x else gV x * iV
def hV (x : Int) : Bool := decide (fV x * fV x % pF = x % pF)
def rV (x : Int) : Int := if fV x * fV x % pF = x % pF then (if fV x % pF % 2 = 1 then 0 - fV x else fV x) else 0
theorem guessF_ok {a : List Int} {x : Int} (h : Rep a x) : Rep (guessF a) (gV x) := (guess_ok h.pw).cast (n := eG) (by decide)
theorem iF_ok : Rep iF iV := by
  have h2 : Pw (small5 2) 2 1 := (small5_ok (n := 2) (by decide)).pw
  have h8 : Pw (small5 8) 2 3 := by
    unfold Pw
    have e : (2 : Int) ^ 3 = 8 := by decide
    rw [e]
    exact small5_ok (by decide)
  exact ((Pw.sq (a := RX.toLen 5 (onesF (small5 2))) (Rep.toLen (ones_ok h2)) 3).mul h8).cast (n := eI) (by decide)
theorem toLen_toLen (n : Nat) (L : List Int) : RX.toLen n (RX.toLen n L) = RX.toLen n L := by
  unfold RX.toLen
  refine List.map_congr_left fun i hi => ?_
  rw [List.mem_range] at hi
  rw [getD_map_range hi]
theorem square_test {g a : List Int} {y x : Int} (hg : Rep g y) (ha : Rep a x) (hl : RX.toLen 5 a = a) : (mul5 g g == a) = decide (y * y % pF = x % pF) := by
  have h := Rep.inj (hg.mul hg) ha
  have e : mul5 g g = RX.toLen 5 (mulF g g) := rfl
  rw [hl] at h
  rw [Bool.eq_iff_iff, beq_iff_eq, decide_eq_true_eq, e, h]
theorem firstF_ok {a : List Int} {x : Int} (h : Rep a x) (hl : RX.toLen 5 a = a) : Rep (firstF a) (fV x) := by
  have hg := guessF_ok h
  have ht := square_test hg h hl
  unfold fV
  by_cases c : gV x * gV x % pF = x % pF
  · rw [if_pos c]
    refine hg.of fun i hi => ?_
    unfold firstF
    rw [getD_map_range hi, ht, decide_eq_true c]
    rfl
  · rw [if_neg c]
    refine (hg.mul iF_ok).of fun i hi => ?_
    unfold firstF
    rw [getD_map_range hi, ht, decide_eq_false c]
    rfl
theorem firstF_len (a : List Int) : RX.toLen 5 (firstF a) = firstF a := by
  unfold RX.toLen
  refine (List.map_congr_left fun i hi => ?_).trans rfl
  rw [List.mem_range] at hi
  unfold firstF
  rw [getD_map_range hi]
theorem againF_eq (a : List Int) (hl : RX.toLen 5 a = a) : againF a = a := by
  unfold againF
  simp only [Bool.cond_self]
  exact hl
theorem hasF_ok {a : List Int} {x : Int} (h : Rep a x) (hl : RX.toLen 5 a = a) : hasF a = hV x := by
  unfold hasF hV
  rw [againF_eq a hl, square_test (firstF_ok h hl) h hl]
  cases decide (fV x * fV x % pF = x % pF) <;> rfl
theorem odd_val (a : List Int) : a.getD 0 0 % 2 = val W51 a 5 % 2 := by
  rw [val5]
  unfold W51
  omega
theorem evenF_ok {a : List Int} {x : Int} (h : Rep a x) (hl : RX.toLen 5 a = a) : Rep (evenF a) (if fV x % pF % 2 = 1 then 0 - fV x else fV x) := by
  have hf := firstF_ok h hl
  have ho := odd_val (firstF a)
  rw [hf.2] at ho
  by_cases c : fV x % pF % 2 = 1
  · rw [if_pos c]
    refine (zeroF_can.sub hf).of fun i hi => ?_
    unfold evenF
    rw [getD_map_range hi, and1_u64, ho, c]
    rfl
  · rw [if_neg c]
    refine hf.of fun i hi => ?_
    have c0 : fV x % pF % 2 = 0 := by omega
    unfold evenF
    rw [getD_map_range hi, and1_u64, ho, c0]
    rfl
theorem rootF_ok {a : List Int} {x : Int} (h : Rep a x) (hl : RX.toLen 5 a = a) : Rep (rootF a) (rV x) := by
  have ht := square_test (firstF_ok h hl) h hl
  unfold rV
  by_cases c : fV x * fV x % pF = x % pF
  · rw [if_pos c]
    refine (evenF_ok h hl).of fun i hi => ?_
    unfold rootF
    rw [getD_map_range hi, againF_eq a hl, ht, decide_eq_true c]
    rfl
  · rw [if_neg c]
    refine zeroF_can.of fun i hi => ?_
    unfold rootF
    rw [getD_map_range hi, againF_eq a hl, ht, decide_eq_false c]
    have : i = 0 ∨ i = 1 ∨ i = 2 ∨ i = 3 ∨ i = 4 := by omega
    rcases this with rfl | rfl | rfl | rfl | rfl <;> rfl
end Go.Proofs.Ytkkekjkfafnahaa.Fd
