/- The plain law of the package cressetref08: sums, products, powers, bytes as numbers modulo p; no condition but that digits are digits. -/
import Derived.Test.YtkkekjkfafnahaaFrm
noncomputable section
namespace Go.Proofs.Ytkkekjkfafnahaa.Fd
open Go Go.RowKit RX
theorem Rep16.self {a : List Int} (h : Can16 a) : Rep16 a (val 65536 a 16) := ⟨h, by rw [Int.emod_eq_of_lt (val_lt (by decide) h.1).1 h.2]⟩
theorem Rep16.toLen {a : List Int} {x : Int} (h : Rep16 a x) : Rep16 (RX.toLen 16 a) x := ⟨⟨Dig.toLen h.1.1, by rw [val_toLen (Nat.le_refl 16)]; exact h.1.2⟩, by rw [val_toLen (Nat.le_refl 16)]; exact h.2⟩
theorem Rep16.congr {a : List Int} {x y : Int} (h : Rep16 a x) (he : x % p25 = y % p25) : Rep16 a y := ⟨h.1, by rw [h.2, he]⟩
theorem Can16.top {a : List Int} (h : Can16 a) : a.getD 15 0 ≤ 32767 := by
  have dl := val_lt (by decide) (h.1.less (show 15 ≤ 16 by omega))
  have e15 : (65536 : Int) ^ 15 = 1766847064778384329583297500742918515827483896875618958121606201292619776 := by decide
  have ht := val16_top 65536 a
  rw [e15] at dl ht
  have := h.2
  unfold p25 at this
  omega
theorem Rep16.add {a b : List Int} {x y : Int} (ha : Rep16 a x) (hb : Rep16 b y) : Rep16 (addR a b) (x + y) := by
  have g : ∀ i, i < 16 → ((List.range 16).map fun i => IntKind.i64.wrap (a.getD i 0 + b.getD i 0)).getD i 0 = a.getD i 0 + b.getD i 0 := fun i hi => by
    have h1 := ha.1.1 i hi
    have h2 := hb.1.1 i hi
    rw [getD_map_range hi, IntWalk.i64_in _ (by omega)]
  refine Rep16.of_fold (fun i hi => by
    have h1 := ha.1.1 i hi
    have h2 := hb.1.1 i hi
    rw [g i hi]; omega) ?_
  have hv : val 65536 ((List.range 16).map fun i => IntKind.i64.wrap (a.getD i 0 + b.getD i 0)) 16 = val 65536 a 16 + val 65536 b 16 := by
    have e := val_map_add 65536 (fun i => a.getD i 0) (fun i => b.getD i 0) 16 16 (Nat.le_refl 16)
    rw [val_congr (L := (List.range 16).map fun i => IntKind.i64.wrap (a.getD i 0 + b.getD i 0)) (M := (List.range 16).map fun i => a.getD i 0 + b.getD i 0) (fun i hi => by rw [g i hi, getD_map_range hi]), e]
    have f : ∀ L : List Int, val 65536 ((List.range 16).map fun i => L.getD i 0) 16 = val 65536 L 16 := fun L => val_congr fun i hi => getD_map_range hi
    rw [f, f]
  rw [hv, ha.2, hb.2, ← Int.add_emod]
theorem modR_val : val 65536 modR 16 = p25 := by decide
theorem modR_dig : Dig 65536 modR 16 := digB_is (by kernel_rfl)
theorem modR_range : ∀ i, i < 16 → 32767 ≤ modR.getD i 0 ∧ modR.getD i 0 ≤ 65535 ∧ (i < 15 → 65517 ≤ modR.getD i 0) := by
  have h : ((List.range 16).all fun i => decide (32767 ≤ modR.getD i 0 ∧ modR.getD i 0 ≤ 65535 ∧ (i < 15 → 65517 ≤ modR.getD i 0))) = true := by kernel_rfl
  intro i hi
  exact of_decide_eq_true (List.all_eq_true.1 h i (List.mem_range.2 hi))
theorem Rep16.sub {a b : List Int} {x y : Int} (ha : Rep16 a x) (hb : Rep16 b y) : Rep16 (subR a b) (x - y) := by
  have ht := hb.1.top
  have g : ∀ i, i < 16 → ((List.range 16).map fun i => IntKind.i64.wrap (IntKind.i64.wrap (a.getD i 0 + IntKind.i64.wrap (2 * modR.getD i 0)) - b.getD i 0)).getD i 0 = a.getD i 0 + (2 * modR.getD i 0 + -1 * b.getD i 0) ∧ 0 ≤ a.getD i 0 + (2 * modR.getD i 0 + -1 * b.getD i 0) ∧ a.getD i 0 + (2 * modR.getD i 0 + -1 * b.getD i 0) ≤ 17592186044416 := fun i hi => by
    have h1 := ha.1.1 i hi
    have h2 := hb.1.1 i hi
    obtain ⟨m1, m2, m3⟩ := modR_range i hi
    rw [getD_map_range hi, IntWalk.i64_in (2 * _) (by omega), IntWalk.i64_in (a.getD i 0 + _) (by omega), IntWalk.i64_in _ (by omega)]
    refine ⟨by omega, ?_, by omega⟩
    by_cases h15 : i < 15
    · have := m3 h15
      omega
    · have : i = 15 := by omega
      subst this
      omega
  refine Rep16.of_fold (fun i hi => by rw [(g i hi).1]; exact (g i hi).2) ?_
  have hv : val 65536 ((List.range 16).map fun i => IntKind.i64.wrap (IntKind.i64.wrap (a.getD i 0 + IntKind.i64.wrap (2 * modR.getD i 0)) - b.getD i 0)) 16 = val 65536 a 16 - val 65536 b 16 + p25 * 2 := by
    have e1 := val_map_add 65536 (fun i => a.getD i 0) (fun i => 2 * modR.getD i 0 + -1 * b.getD i 0) 16 16 (Nat.le_refl 16)
    have e2 := val_map_add 65536 (fun i => 2 * modR.getD i 0) (fun i => -1 * b.getD i 0) 16 16 (Nat.le_refl 16)
    have e3 := val_scale 65536 2 (fun i => modR.getD i 0) 16 16 (Nat.le_refl 16)
    have e4 := val_scale 65536 (-1) (fun i => b.getD i 0) 16 16 (Nat.le_refl 16)
    have f : ∀ L : List Int, val 65536 ((List.range 16).map fun i => L.getD i 0) 16 = val 65536 L 16 := fun L => val_congr fun i hi => getD_map_range hi
    rw [val_congr (M := (List.range 16).map fun i => a.getD i 0 + (2 * modR.getD i 0 + -1 * b.getD i 0)) (fun i hi => by rw [(g i hi).1, getD_map_range hi]), e1, e2, e3, e4, f, f, f, modR_val]
    omega
  rw [hv, Int.add_mul_emod_self_left, Int.sub_emod, ha.2, hb.2, Int.emod_emod, Int.emod_emod, ← Int.sub_emod]
theorem colR_ok {a b : List Int} (ha : Dig 65536 a 16) (hb : Dig 65536 b 16) (j : Nat) (hj : j < 16) : ∀ i : Nat, i ≤ 16 → 0 ≤ colR a b j i ∧ colR a b j i ≤ i * 163203776550 ∧
    (∀ n, i = n + 1 → colR a b j i = colR a b j n + (if n ≤ j then a.getD n 0 * b.getD (j - n) 0 else 38 * a.getD n 0 * b.getD (j + 16 - n) 0))
  | 0, _ => ⟨Int.le_refl 0, by simp [colR], fun n hn => by omega⟩
  | i + 1, hi => by
    obtain ⟨h1, h2, _⟩ := colR_ok ha hb j hj i (by omega)
    have hai := ha i (by omega)
    have key : colR a b j (i + 1) = colR a b j i + (if i ≤ j then a.getD i 0 * b.getD (j - i) 0 else 38 * a.getD i 0 * b.getD (j + 16 - i) 0) ∧
        0 ≤ (if i ≤ j then a.getD i 0 * b.getD (j - i) 0 else 38 * a.getD i 0 * b.getD (j + 16 - i) 0) ∧ (if i ≤ j then a.getD i 0 * b.getD (j - i) 0 else 38 * a.getD i 0 * b.getD (j + 16 - i) 0) ≤ 163203776550 := by
      simp only [colR]
      by_cases hc : i ≤ j
      · have hbk := hb (j - i) (by omega)
        have hm := mul_le (a := a.getD i 0) (b := b.getD (j - i) 0) (A := 65535) (B := 65535) hai.1 hbk.1 (by omega) (by omega)
        rw [if_pos hc, Nat.ble_eq_true_of_le hc, cond_true]
        generalize a.getD i 0 * b.getD (j - i) 0 = q at *
        rw [IntWalk.i64_in q (by omega), IntWalk.i64_in _ (by omega)]
        exact ⟨rfl, by omega, by omega⟩
      · have hbk := hb (j + 16 - i) (by omega)
        have hm := mul_le (a := 38 * a.getD i 0) (b := b.getD (j + 16 - i) 0) (A := 2490330) (B := 65535) (by omega) hbk.1 (by omega) (by omega)
        have hble : Nat.ble i j = false := Bool.eq_false_iff.2 fun h5 => hc (Nat.le_of_ble_eq_true h5)
        rw [if_neg hc, hble, cond_false, IntWalk.i64_in (38 * _) (by omega)]
        generalize 38 * a.getD i 0 * b.getD (j + 16 - i) 0 = q at *
        rw [IntWalk.i64_in q (by omega), IntWalk.i64_in _ (by omega)]
        exact ⟨rfl, by omega, by omega⟩
    refine ⟨by omega, by omega, fun n hn => ?_⟩
    have : i = n := by omega
    subst this
    exact key.1
/-- One row of a product. -/
theorem row_val (b : List Int) (q : Int) {i : Nat} (hi : i < 16) : ∃ H, val 65536 ((List.range 16).map fun j => if i ≤ j then q * b.getD (j - i) 0 else 38 * q * b.getD (j + 16 - i) 0) 16 = q * (65536 ^ i * val 65536 b 16) - p25 * H := by
  have hb := val_drop 65536 b (16 - i) i
  rw [show 16 - i + i = 16 by omega] at hb
  refine ⟨2 * q * val 65536 (b.drop (16 - i)) i, ?_⟩
  have hL := val_drop 65536 ((List.range 16).map fun j => if i ≤ j then q * b.getD (j - i) 0 else 38 * q * b.getD (j + 16 - i) 0) i (16 - i)
  rw [show i + (16 - i) = 16 by omega] at hL
  have e1 : val 65536 ((List.range 16).map fun j => if i ≤ j then q * b.getD (j - i) 0 else 38 * q * b.getD (j + 16 - i) 0) i = 38 * q * val 65536 (b.drop (16 - i)) i := by
    rw [← val_congr (L := (List.range 16).map fun j => 38 * q * (b.drop (16 - i)).getD j 0) (n := i) (fun j hj => by
      rw [getD_map_range (by omega), getD_map_range (by omega), if_neg (by omega)]
      simp only [List.getD_eq_getElem?_getD, List.getElem?_drop]
      rw [show 16 - i + j = j + 16 - i by omega]), val_scale _ _ _ 16 i (by omega)]
    congr 1
    exact val_congr fun j hj => getD_map_range (by omega)
  have e2 : val 65536 (((List.range 16).map fun j => if i ≤ j then q * b.getD (j - i) 0 else 38 * q * b.getD (j + 16 - i) 0).drop i) (16 - i) = q * val 65536 b (16 - i) := by
    rw [← val_congr (L := (List.range 16).map fun j => q * b.getD j 0) (n := 16 - i) (fun j hj => by
      rw [getD_map_range (by omega)]
      have : ∀ L : List Int, (L.drop i).getD j 0 = L.getD (i + j) 0 := fun L => by simp only [List.getD_eq_getElem?_getD, List.getElem?_drop]
      rw [this, getD_map_range (by omega), if_pos (by omega), show i + j - i = j by omega]), val_scale _ _ _ 16 (16 - i) (by omega)]
    congr 1
    exact val_congr fun j hj => getD_map_range (by omega)
  rw [hL, e1, e2, hb]
  have hp : (65536 : Int) ^ i * 65536 ^ (16 - i) = 2 * p25 + 38 := by
    rw [← Int.pow_add, show i + (16 - i) = 16 by omega]
    decide
  generalize val 65536 (b.drop (16 - i)) i = H at *
  generalize val 65536 b (16 - i) = l at *
  generalize (65536 : Int) ^ i = u at *
  generalize (65536 : Int) ^ (16 - i) = v at *
  generalize p25 = p at *
  grind
theorem cols_val {a b : List Int} (ha : Dig 65536 a 16) (hb : Dig 65536 b 16) : ∀ i, i ≤ 16 → ∃ H, val 65536 ((List.range 16).map fun j => colR a b j i) 16 = val 65536 a i * val 65536 b 16 - p25 * H
  | 0, _ => by
    refine ⟨0, ?_⟩
    have : ∀ n, n ≤ 16 → val 65536 ((List.range 16).map fun j => colR a b j 0) n = 0 := by
      intro n hn
      induction n with
      | zero => rfl
      | succ n ih =>
        simp only [val]
        rw [ih (by omega), getD_map_range (by omega)]
        simp [colR]
    rw [this 16 (Nat.le_refl 16)]
    simp [val]
  | i + 1, hi => by
    obtain ⟨H, hH⟩ := cols_val ha hb i (by omega)
    obtain ⟨R, hR⟩ := row_val b (a.getD i 0) (show i < 16 by omega)
    refine ⟨H + R, ?_⟩
    have e : val 65536 ((List.range 16).map fun j => colR a b j (i + 1)) 16 = val 65536 ((List.range 16).map fun j => colR a b j i + (if i ≤ j then a.getD i 0 * b.getD (j - i) 0 else 38 * a.getD i 0 * b.getD (j + 16 - i) 0)) 16 :=
      val_congr fun j hj => by rw [getD_map_range hj, getD_map_range hj]; exact (colR_ok ha hb j hj (i + 1) hi).2.2 i rfl
    rw [e, val_map_add _ _ _ 16 16 (Nat.le_refl 16), hH, hR]
    simp only [val]
    grind
theorem Rep16.mul {a b : List Int} {x y : Int} (ha : Rep16 a x) (hb : Rep16 b y) : Rep16 (mulR a b) (x * y) := by
  obtain ⟨H, hH⟩ := cols_val ha.1.1 hb.1.1 16 (Nat.le_refl 16)
  refine Rep16.of_fold (fun i hi => by
    obtain ⟨h1, h2, _⟩ := colR_ok ha.1.1 hb.1.1 i hi 16 (Nat.le_refl 16)
    rw [getD_map_range hi]
    omega) ?_
  rw [hH, Int.sub_eq_add_neg, ← Int.mul_neg, Int.add_mul_emod_self_left, ha.2, hb.2, ← Int.mul_emod]
theorem Rep16.mul16 {a b : List Int} {x y : Int} (ha : Rep16 a x) (hb : Rep16 b y) : Rep16 (mul16 a b) (x * y) := ha.toLen.mul hb.toLen
theorem bytesR_ok {a : List Int} (ha : Dig 65536 a 16) : bytesR a = bytI (val 65536 a 16) 32 := by
  unfold bytesR bytI
  refine List.map_congr_left fun i hi => ?_
  rw [List.mem_range] at hi
  have h := digit_byte (w := 2) (a := a) (n := 16) (j := i / 2) (m := i % 2) ha (by omega) (by omega)
  have e : 2 * (i / 2) + i % 2 = i := by omega
  rw [e] at h
  rw [IntKind.wrap_u8]
  refine Eq.trans ?_ h.symm
  by_cases h2 : i % 2 = 0
  · rw [h2]; simp
  · have h1 : i % 2 = 1 := by omega
    rw [h1, shrI_eq _ _ (by decide)]
    rfl
theorem Rep16.bytes {a : List Int} {x : Int} (h : Rep16 a x) : bytesN 32 (bytesR a) = strI (x % p25) := by
  unfold strI
  rw [bytesR_ok h.1.1, h.2]
theorem digitsR_getD (s : ByteArray) {n i : Nat} (h : i < n) : (digitsR s n).getD i 0 = sbyte s (2 * i : Nat) + 256 * sbyte s (2 * i + 1 : Nat) := by
  unfold digitsR
  rw [getD_map_range h]
  have h1 := sbyte_le s (2 * i : Nat)
  have h2 := sbyte_le s (2 * i + 1 : Nat)
  rw [IntWalk.i64_in (sbyte s (2 * i : Nat)) (by omega), IntWalk.i64_in (sbyte s (2 * i + 1 : Nat)) (by omega), IntWalk.i64_in (256 * _) (by omega), IntWalk.i64_in _ (by omega)]
theorem digitsR_dig (s : ByteArray) (n : Nat) : Dig 65536 (digitsR s n) n := by
  intro i hi
  rw [digitsR_getD s hi]
  have h1 := sbyte_le s (2 * i : Nat)
  have h2 := sbyte_le s (2 * i + 1 : Nat)
  omega
theorem digitsR_val (s : ByteArray) (m : Nat) : ∀ n, n ≤ m → val 65536 (digitsR s m) n = valS s (2 * n)
  | 0, _ => by simp [val, valS]
  | n + 1, h => by
    simp only [val]
    rw [digitsR_val s m n (by omega), digitsR_getD s (by omega), show 2 * (n + 1) = 2 * n + 1 + 1 by omega, valS_succ, valS_succ]
    have : (65536 : Int) ^ n = 256 ^ (2 * n) := by rw [Int.pow_mul]; rfl
    rw [this, Int.pow_succ, Int.mul_add, Int.mul_assoc]
    omega
theorem ofR_ok (s : ByteArray) : Rep16 (ofR s) (valS s 32) := by
  obtain ⟨h1, h2⟩ := belowR_ok (digitsR_dig s 16)
  exact ⟨h1, by unfold ofR; rw [h2, digitsR_val s 16 16 (Nat.le_refl 16)]⟩

/-! ### Powers -/
theorem Rep16.cond {a b : List Int} {x : Int} {c : Bool} (ha : c = true → Rep16 a x) (hb : c = false → Rep16 b x) : Rep16 (bif c then a else b) x := by
  cases c
  · exact hb rfl
  · exact ha rfl
theorem powS_ok {a n : List Int} {x : Int} (ha : Rep16 a x) (hn : Dig 65536 n 16) {out : List Int} {e : Nat} (ho : Rep16 out (x ^ e)) {i : Nat} (hi : i < 256) :
    (powS (a, n, out) i).1 = a ∧ (powS (a, n, out) i).2.1 = n ∧ Rep16 (powS (a, n, out) i).2.2 (x ^ (2 * e + (val 65536 n 16).toNat / 2 ^ i % 2)) := by
  have hd := digit_in (b := 2) (by decide) (w := 16) (a := n) (n := 16) (j := i / 16) (m := i % 16) hn (by omega) (by omega)
  have e0 : 16 * (i / 16) + i % 16 = i := by omega
  have e16 : (2 : Int) ^ 16 = 65536 := by decide
  rw [e0, e16] at hd
  obtain ⟨v0, v1⟩ := val_lt (by decide) hn
  have hbit : andI .i64 (shrI .i64 (n.getD (i / 16) 0) (i % 16)) 1 = (((val 65536 n 16).toNat / 2 ^ i % 2 : Nat) : Int) := by
    rw [and1_i64, shrI_eq _ _ (show i % 16 ≤ 64 by omega), ← hd]
    obtain ⟨N, hN⟩ := Int.eq_ofNat_of_zero_le v0
    rw [hN, Int.toNat_natCast]
    push_cast
    rfl
  have hsq : Rep16 (Fd.mul16 out out) (x ^ (2 * e)) := by
    rw [show 2 * e = e + e by omega, Int.pow_add]
    exact ho.mul16 ho
  refine ⟨by simp only [powS, Bool.cond_self], by simp only [powS, Bool.cond_self], ?_⟩
  simp only [powS]
  rw [hbit]
  rcases Nat.mod_two_eq_zero_or_one ((val 65536 n 16).toNat / 2 ^ i) with h | h
  · have hc : ((((val 65536 n 16).toNat / 2 ^ i % 2 : Nat) : Int) == 1) = false := by rw [h]; rfl
    rw [hc, cond_false, h, Nat.add_zero]
    exact hsq
  · have hc : ((((val 65536 n 16).toNat / 2 ^ i % 2 : Nat) : Int) == 1) = true := by rw [h]; rfl
    rw [hc, cond_true, h, Int.pow_succ]
    exact hsq.mul16 ha
theorem nat_mod_succ (N m : Nat) : N % 2 ^ (m + 1) = 2 ^ m * (N / 2 ^ m % 2) + N % 2 ^ m := by
  rw [Nat.mod_pow_succ, Nat.add_comm]
theorem pow_fold {a n : List Int} {x : Int} (ha : Rep16 a x) (hn : Dig 65536 n 16) : ∀ m, m ≤ 256 → ∀ (out : List Int) (e : Nat), Rep16 out (x ^ e) →
    Rep16 ((List.range m).reverse.foldl powS (a, n, out)).2.2 (x ^ (2 ^ m * e + (val 65536 n 16).toNat % 2 ^ m))
  | 0, _, out, e, ho => by simpa [Nat.mod_one] using ho
  | m + 1, hm, out, e, ho => by
    obtain ⟨p1, p2, p3⟩ := powS_ok ha hn ho (show m < 256 by omega)
    rw [List.range_succ, List.reverse_append, List.reverse_singleton, List.singleton_append, List.foldl_cons]
    have hst : powS (a, n, out) m = (a, n, (powS (a, n, out) m).2.2) := Prod.ext p1 (Prod.ext p2 rfl)
    rw [hst]
    have := pow_fold ha hn m (by omega) _ _ p3
    rw [nat_mod_succ, Nat.pow_succ]
    have e1 : 2 ^ m * (2 * e + (val 65536 n 16).toNat / 2 ^ m % 2) + (val 65536 n 16).toNat % 2 ^ m = 2 ^ m * 2 * e + (2 ^ m * ((val 65536 n 16).toNat / 2 ^ m % 2) + (val 65536 n 16).toNat % 2 ^ m) := by
      rw [Nat.mul_add, Nat.mul_assoc]; omega
    rw [e1] at this
    exact this
end Go.Proofs.Ytkkekjkfafnahaa.Fd
