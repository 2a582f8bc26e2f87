/- The plain law of the package field: what stands for which number modulo p; powers, bytes. -/
import Derived.Test.YtkkekjkfafnahaaFdn
import Derived.Test.YtkkekjkfafnahaaFdc
noncomputable section
namespace Go.Proofs.Ytkkekjkfafnahaa.Fd
open Go Go.RowKit RX
/-- Parts that stand for a number modulo p. -/
def Rep (a : List Int) (x : Int) : Prop := Can a ∧ val W51 a 5 = x % pF
theorem Rep.mul {a b : List Int} {x y : Int} (ha : Rep a x) (hb : Rep b y) : Rep (mulF a b) (x * y) := by
  obtain ⟨h1, h2⟩ := mulF_ok ha.1 hb.1
  exact ⟨h1, by rw [h2, ha.2, hb.2, ← Int.mul_emod]⟩
theorem Rep.add {a b : List Int} {x y : Int} (ha : Rep a x) (hb : Rep b y) : Rep (addF a b) (x + y) := by
  obtain ⟨h1, h2⟩ := addF_ok ha.1 hb.1
  exact ⟨h1, by rw [h2, ha.2, hb.2, ← Int.add_emod]⟩
theorem Rep.sub {a b : List Int} {x y : Int} (ha : Rep a x) (hb : Rep b y) : Rep (subF a b) (x - y) := by
  obtain ⟨h1, h2⟩ := subF_ok ha.1 hb.1
  exact ⟨h1, by rw [h2, ha.2, hb.2, ← Int.sub_emod]⟩
theorem Rep.toLen {a : List Int} {x : Int} (h : Rep a x) : Rep (toLen 5 a) x := ⟨⟨Dig.toLen h.1.1, by rw [val_toLen (Nat.le_refl 5)]; exact h.1.2⟩, by rw [val_toLen (Nat.le_refl 5)]; exact h.2⟩
theorem Rep.self {a : List Int} (h : Can a) : Rep a (val W51 a 5) := ⟨h, by rw [Int.emod_eq_of_lt (val_lt (by decide) h.1).1 h.2]⟩
theorem Rep.of {a b : List Int} {x : Int} (h : Rep a x) (he : ∀ i, i < 5 → b.getD i 0 = a.getD i 0) : Rep b x :=
  ⟨⟨fun i hi => by rw [he i hi]; exact h.1.1 i hi, by rw [val_congr he]; exact h.1.2⟩, by rw [val_congr he]; exact h.2⟩
theorem Rep.congr {a : List Int} {x y : Int} (h : Rep a x) (he : x % pF = y % pF) : Rep a y := ⟨h.1, by rw [h.2, he]⟩
/-- What stands for the same number is the same, part by part. -/
theorem Rep.inj {a b : List Int} {x y : Int} (ha : Rep a x) (hb : Rep b y) : (RX.toLen 5 a = RX.toLen 5 b) ↔ x % pF = y % pF := by
  constructor
  · intro h
    rw [← ha.2, ← hb.2, ← val_toLen (L := a) (Nat.le_refl 5), ← val_toLen (L := b) (Nat.le_refl 5), h]
  · intro h
    have hv : val W51 a 5 = val W51 b 5 := by rw [ha.2, hb.2, h]
    have := val_inj (by decide) ha.1.1 hb.1.1 hv
    unfold RX.toLen
    refine List.map_congr_left fun i hi => ?_
    rw [List.mem_range] at hi
    exact this i hi
theorem Rep.sq {a : List Int} {x : Int} (h : Rep a x) : ∀ n, Rep (sqF a n) (x ^ 2 ^ n)
  | 0 => by rw [Nat.pow_zero, Int.pow_succ, Int.pow_zero, Int.one_mul]; exact h
  | n + 1 => by
    have ih := Rep.sq h n
    have := ih.toLen.mul ih.toLen
    rw [Nat.pow_succ, Int.pow_mul, Int.pow_succ, Int.pow_succ, Int.pow_zero, Int.one_mul]
    exact this
/-- Parts that stand for a power. -/
def Pw (a : List Int) (x : Int) (m : Nat) : Prop := Rep a (x ^ m)
theorem Pw.mul {a b : List Int} {x : Int} {m n : Nat} (ha : Pw a x m) (hb : Pw b x n) : Pw (mul5 a b) x (m + n) := by
  unfold Pw
  rw [Int.pow_add]
  exact (Rep.mul ha hb).toLen
theorem Pw.mul' {a b : List Int} {x : Int} {m n : Nat} (ha : Pw a x m) (hb : Pw b x n) : Pw (mulF a b) x (m + n) := by
  unfold Pw
  rw [Int.pow_add]
  exact Rep.mul ha hb
theorem Pw.sq {a : List Int} {x : Int} {m : Nat} (ha : Pw a x m) (n : Nat) : Pw (sq5 a n) x (m * 2 ^ n) := by
  unfold Pw
  rw [Int.pow_mul]
  exact (Rep.sq ha n).toLen
theorem Pw.cast {a : List Int} {x : Int} {m n : Nat} (h : Pw a x m) (e : m = n) : Pw a x n := e ▸ h
section
variable {a : List Int} {x : Int} (h : Pw a x 1)
include h
theorem nine_ok : Pw (nineF a) x 9 := (((h.sq 1).sq 2).mul h).cast (by decide)
theorem eleven_ok : Pw (elevenF a) x 11 := ((nine_ok h).mul (h.sq 1)).cast (by decide)
theorem o5_ok : Pw (o5F a) x 31 := (((eleven_ok h).sq 1).mul (nine_ok h)).cast (by decide)
theorem o10_ok : Pw (o10F a) x 1023 := (((o5_ok h).sq 5).mul (o5_ok h)).cast (by decide)
theorem o20_ok : Pw (o20F a) x 1048575 := (((o10_ok h).sq 10).mul (o10_ok h)).cast (by decide)
theorem o40_ok : Pw (o40F a) x 1099511627775 := (((o20_ok h).sq 20).mul (o20_ok h)).cast (by decide)
theorem o50_ok : Pw (o50F a) x 1125899906842623 := (((o40_ok h).sq 10).mul (o10_ok h)).cast (by decide)
theorem o100_ok : Pw (o100F a) x (2 ^ 100 - 1) := (((o50_ok h).sq 50).mul (o50_ok h)).cast (by decide)
theorem o200_ok : Pw (o200F a) x (2 ^ 200 - 1) := (((o100_ok h).sq 100).mul (o100_ok h)).cast (by decide)
theorem ones_ok : Pw (onesF a) x (2 ^ 250 - 1) := (((o200_ok h).sq 50).mul' (o50_ok h)).cast (by decide)
theorem inv_ok : Pw (invF a) x (2 ^ 255 - 21) := ((Pw.sq (a := toLen 5 (onesF a)) (Rep.toLen (ones_ok h)) 5).mul' (eleven_ok h)).cast (by decide)
theorem guess_ok : Pw (guessF a) x (2 ^ 252 - 2) := (((Pw.sq (a := toLen 5 (onesF a)) (Rep.toLen (ones_ok h)) 2).mul h).mul h).cast (by decide)
end
theorem Rep.pw {a : List Int} {x : Int} (h : Rep a x) : Pw a x 1 := by unfold Pw; rw [Int.pow_succ, Int.pow_zero, Int.one_mul]; exact h

/-! ### Bytes -/
theorem bit_at {a : List Int} (h : Can a) {t : Nat} (ht : t < 255) : a.getD (t / 51) 0 / 2 ^ (t % 51) % 2 = val W51 a 5 / 2 ^ t % 2 := by
  have hd := digit_in (b := 2) (by decide) (w := 51) (a := a) (n := 5) (j := t / 51) (m := t % 51) h.1 (by omega) (by omega)
  have e : 51 * (t / 51) + t % 51 = t := by omega
  rw [e] at hd
  exact hd.symm
theorem byteF_ok {a : List Int} (h : Can a) (j : Nat) : ∀ m, m ≤ 8 → 8 * j + m ≤ 255 → byteF a j m = val W51 a 5 / 2 ^ (8 * j) % 2 ^ m
  | 0, _, _ => by simp [byteF, Int.emod_one]
  | m + 1, hm, hj => by
    have ih := byteF_ok h j m (by omega) (by omega)
    have hb := bit_at h (t := 8 * j + m) (by omega)
    have hv := (val_lt (by decide) h.1).1
    have hp : (0 : Int) < 2 ^ (8 * j) := Int.pow_pos (by decide)
    simp only [byteF]
    rw [and1_u64, shrI_eq _ _ (show (8 * j + m) % 51 ≤ 64 by omega), hb]
    have hbit : val W51 a 5 / 2 ^ (8 * j + m) % 2 = 0 ∨ val W51 a 5 / 2 ^ (8 * j + m) % 2 = 1 := by omega
    have hw : IntKind.u8.wrap (val W51 a 5 / 2 ^ (8 * j + m) % 2) = val W51 a 5 / 2 ^ (8 * j + m) % 2 := by rw [IntKind.wrap_u8]; omega
    have hpm : (0 : Int) < 2 ^ m := Int.pow_pos (by decide)
    rw [hw, ih, or_bit8 (by omega) ⟨Int.emod_nonneg _ (by omega), Int.emod_lt_of_pos _ hpm⟩ hbit]
    rw [emod_succ, Int.pow_add, ← Int.ediv_ediv_of_nonneg (Int.le_of_lt hp)]
theorem pF_lt : pF < 256 ^ 32 := by decide
theorem bytesF_ok {a : List Int} (h : Can a) : bytesF a = bytI (val W51 a 5) 32 := by
  unfold bytesF bytI
  refine List.map_congr_left fun j hj => ?_
  rw [List.mem_range] at hj
  have e8 : (2 : Int) ^ (8 * j) = 256 ^ j := by rw [Int.pow_mul]; rfl
  by_cases h31 : j = 31
  · subst h31
    show byteF a 31 7 = _
    rw [byteF_ok h 31 7 (by omega) (by omega), e8]
    have hv := (val_lt (by decide) h.1).1
    have hl := h.2
    have e31 : (256 : Int) ^ 31 = 452312848583266388373324160190187140051835877600158453279131187530910662656 := by decide
    have e7 : (2 : Int) ^ 7 = 128 := by decide
    rw [e31, e7]
    unfold pF at hl
    omega
  · have hc : (j == 31) = false := by simp [h31]
    rw [hc, cond_false, byteF_ok h j 8 (by omega) (by omega), e8]
    rfl
/-- The bytes of what stands for a number. -/
theorem Rep.bytes {a : List Int} {x : Int} (h : Rep a x) : bytesN 32 (bytesF a) = strI (x % pF) := by
  unfold strI
  rw [bytesF_ok h.1, h.2]
theorem mod_p (x : Int) : 0 ≤ x % pF ∧ x % pF < 256 ^ 32 := ⟨Int.emod_nonneg _ (by decide), Int.lt_trans (Int.emod_lt_of_pos _ (by decide)) pF_lt⟩
end Go.Proofs.Ytkkekjkfafnahaa.Fd
