/- The plain law of the package field: products and powers as numbers modulo p; no condition but that parts are parts. -/
import Derived.Test.YtkkekjkfafnahaaFdm
noncomputable section
namespace Go.Proofs.Ytkkekjkfafnahaa.Fd
open Go Go.RowKit RX
theorem hiP_loP {x y : Int} (hx : 0 ≤ x ∧ x < 18446744073709551616) (hy : 0 ≤ y ∧ y < 18446744073709551616) : hiP x y = x * y / 18446744073709551616 ∧ loP x y = x * y % 18446744073709551616 := by
  have e32 : (2 : Int) ^ 32 = 4294967296 := by decide
  refine ⟨?_, by unfold loP; rw [IntKind.wrap_u64]⟩
  unfold hiP
  simp only [shrI_eq .u64 _ (show 32 ≤ IntKind.u64.bits by decide), and32_u64, e32]
  have m11 := mul_le (a := x / 4294967296) (b := y / 4294967296) (A := 4294967295) (B := 4294967295) (by omega) (by omega) (by omega) (by omega)
  have m10 := mul_le (a := x / 4294967296) (b := y % 4294967296) (A := 4294967295) (B := 4294967295) (by omega) (by omega) (by omega) (by omega)
  have m01 := mul_le (a := x % 4294967296) (b := y / 4294967296) (A := 4294967295) (B := 4294967295) (by omega) (by omega) (by omega) (by omega)
  have m00 := mul_le (a := x % 4294967296) (b := y % 4294967296) (A := 4294967295) (B := 4294967295) (by omega) (by omega) (by omega) (by omega)
  have exy : x * y = (x / 4294967296 * (y / 4294967296)) * 18446744073709551616 + (x / 4294967296 * (y % 4294967296) + x % 4294967296 * (y / 4294967296)) * 4294967296 + x % 4294967296 * (y % 4294967296) := by
    have h1 := Int.emod_add_mul_ediv x 4294967296
    have h2 := Int.emod_add_mul_ediv y 4294967296
    generalize x / 4294967296 = x1 at *
    generalize x % 4294967296 = x0 at *
    generalize y / 4294967296 = y1 at *
    generalize y % 4294967296 = y0 at *
    subst h1 h2
    grind
  rw [exy]
  generalize x / 4294967296 * (y / 4294967296) = p11 at *
  generalize x / 4294967296 * (y % 4294967296) = p10 at *
  generalize x % 4294967296 * (y / 4294967296) = p01 at *
  generalize x % 4294967296 * (y % 4294967296) = p00 at *
  rw [IntWalk.u64_in p11 (by omega), IntWalk.u64_in p10 (by omega), IntWalk.u64_in p01 (by omega), IntWalk.u64_in p00 (by omega)]
  rw [IntWalk.u64_in (p10 + p00 / 4294967296) (by omega)]
  rw [IntWalk.u64_in (p11 + _) (by omega), IntWalk.u64_in (_ % 4294967296 + p01) (by omega), IntWalk.u64_in _ (by omega)]
  omega
theorem addSC {x y c : Int} (hx : 0 ≤ x) (hy : 0 ≤ y) (hc : 0 ≤ c) : addS x y c = (x + y + c) % 18446744073709551616 ∧ addC x y c = (x + y + c) / 18446744073709551616 := by
  unfold addS addC
  obtain ⟨x', rfl⟩ := Int.eq_ofNat_of_zero_le hx
  obtain ⟨y', rfl⟩ := Int.eq_ofNat_of_zero_le hy
  obtain ⟨c', rfl⟩ := Int.eq_ofNat_of_zero_le hc
  simp only [Int.toNat_natCast]
  omega
/-- A number of 128 bits. -/
def V2 (x : List Int) : Int := x.getD 0 0 * 18446744073709551616 + x.getD 1 0
def Two (x : List Int) : Prop := (0 ≤ x.getD 0 0 ∧ x.getD 0 0 < 18446744073709551616) ∧ 0 ≤ x.getD 1 0 ∧ x.getD 1 0 < 18446744073709551616
theorem plusF_ok {x : List Int} (hx : Two x) {a b : Int} (ha : 0 ≤ a ∧ a < 18446744073709551616) (hb : 0 ≤ b ∧ b < 18446744073709551616) (hs : V2 x + a * b < 340282366920938463463374607431768211456) :
    Two (plusF x a b) ∧ V2 (plusF x a b) = V2 x + a * b := by
  obtain ⟨e1, e2⟩ := hiP_loP ha hb
  have hq := Int.mul_nonneg ha.1 hb.1
  obtain ⟨a1, a2⟩ := addSC (x := x.getD 1 0) (y := loP a b) (c := 0) hx.2.1 (by rw [e2]; omega) (Int.le_refl 0)
  obtain ⟨⟨h0, h1⟩, h2, h3⟩ := hx
  unfold V2 at hs ⊢
  have f0 : (plusF x a b).getD 0 0 = IntKind.u64.wrap (x.getD 0 0 + IntKind.u64.wrap (hiP a b + addC (x.getD 1 0) (loP a b) 0)) := rfl
  have f1 : (plusF x a b).getD 1 0 = addS (x.getD 1 0) (loP a b) 0 := rfl
  unfold Two
  rw [f0, f1, a1, a2, e1, e2]
  generalize a * b = q at *
  generalize x.getD 0 0 = y at *
  generalize x.getD 1 0 = z at *
  rw [IntWalk.u64_in (q / 18446744073709551616 + _) (by omega), IntWalk.u64_in _ (by omega)]
  omega
/-- What one part adds to a column. -/
def tF (a b : List Int) (j i : Nat) : Int := (bif Nat.ble i j then a.getD i 0 else 19 * a.getD i 0) * b.getD (bif Nat.ble i j then j - i else j + 5 - i) 0
def sumF (a b : List Int) (j : Nat) : Nat → Int
  | 0 => 0
  | i + 1 => sumF a b j i + tF a b j i
theorem tF_le {a b : List Int} (ha : Can a) (hb : Can b) {j i : Nat} (hj : j < 5) (hi : i < 5) : 0 ≤ tF a b j i ∧ tF a b j i ≤ 96341445617345348945356523569171 := by
  have h1 := ha.1 i hi
  unfold tF
  cases hc : Nat.ble i j with
  | true =>
    have h2 := hb.1 (j - i) (by omega)
    have := mul_le (a := a.getD i 0) (b := b.getD (j - i) 0) (A := 2251799813685247) (B := 2251799813685247) h1.1 h2.1 (by unfold W51 at h1; omega) (by unfold W51 at h2; omega)
    simp only [cond_true]
    omega
  | false =>
    have hlt : j < i := by
      rcases Nat.lt_or_ge j i with h | h
      · exact h
      · rw [Nat.ble_eq_true_of_le h] at hc; cases hc
    have h2 := hb.1 (j + 5 - i) (by omega)
    have := mul_le (a := 19 * a.getD i 0) (b := b.getD (j + 5 - i) 0) (A := 42784196460019693) (B := 2251799813685247) (by omega) h2.1 (by unfold W51 at h1; omega) (by unfold W51 at h2; omega)
    simp only [cond_false]
    omega
theorem toLen2 (L : List Int) : Two (toLen 2 L) ↔ Two L := by
  unfold Two
  rw [toLen_getD (by omega), toLen_getD (by omega)]
theorem V2_toLen (L : List Int) : V2 (toLen 2 L) = V2 L := by
  unfold V2
  rw [toLen_getD (by omega), toLen_getD (by omega)]
theorem colF_ok {a b : List Int} (ha : Can a) (hb : Can b) {j : Nat} (hj : j < 5) : ∀ i : Nat, i ≤ 5 → Two (colF a b j i) ∧ V2 (colF a b j i) = sumF a b j i ∧ 0 ≤ sumF a b j i ∧ sumF a b j i ≤ i * 96341445617345348945356523569171
  | 0, _ => by
    refine ⟨⟨⟨Int.le_refl 0, show (0 : Int) < 18446744073709551616 by decide⟩, Int.le_refl 0, show (0 : Int) < 18446744073709551616 by decide⟩, rfl, Int.le_refl 0, by simp [sumF]⟩
  | i + 1, hi => by
    obtain ⟨h1, h2, h3, h4⟩ := colF_ok ha hb hj i (by omega)
    have ht := tF_le ha hb hj (show i < 5 by omega)
    have hai := ha.1 i (by omega)
    have hx : 0 ≤ (bif Nat.ble i j then a.getD i 0 else IntKind.u64.wrap (19 * a.getD i 0)) ∧ (bif Nat.ble i j then a.getD i 0 else IntKind.u64.wrap (19 * a.getD i 0)) < 18446744073709551616 ∧
        (bif Nat.ble i j then a.getD i 0 else IntKind.u64.wrap (19 * a.getD i 0)) = (bif Nat.ble i j then a.getD i 0 else 19 * a.getD i 0) := by
      unfold W51 at hai
      cases Nat.ble i j with
      | true => simp only [cond_true]; exact ⟨by omega, by omega, trivial⟩
      | false => simp only [cond_false]; rw [IntWalk.u64_in _ (by omega)]; exact ⟨by omega, by omega, rfl⟩
    have hy : 0 ≤ b.getD (bif Nat.ble i j then j - i else j + 5 - i) 0 ∧ b.getD (bif Nat.ble i j then j - i else j + 5 - i) 0 < 18446744073709551616 := by
      have hk : (bif Nat.ble i j then j - i else j + 5 - i) < 5 := by
        cases hc : Nat.ble i j with
        | true => simp only [cond_true]; omega
        | false =>
          simp only [cond_false]
          rcases Nat.lt_or_ge j i with h | h
          · omega
          · rw [Nat.ble_eq_true_of_le h] at hc; cases hc
      have := hb.1 _ hk
      unfold W51 at this
      omega
    have hs : V2 (toLen 2 (colF a b j i)) + (bif Nat.ble i j then a.getD i 0 else IntKind.u64.wrap (19 * a.getD i 0)) * b.getD (bif Nat.ble i j then j - i else j + 5 - i) 0 < 340282366920938463463374607431768211456 := by
      rw [V2_toLen, h2, hx.2.2]
      unfold tF at ht
      omega
    obtain ⟨p1, p2⟩ := plusF_ok ((toLen2 _).2 h1) ⟨hx.1, hx.2.1⟩ hy hs
    have p3 : V2 (colF a b j (i + 1)) = sumF a b j (i + 1) := by
      show V2 (plusF _ _ _) = _
      rw [p2, V2_toLen, h2, hx.2.2]
      rfl
    refine ⟨p1, p3, ?_, ?_⟩
    · simp only [sumF]; omega
    · simp only [sumF]; omega
theorem or13 {h l : Int} (hh : 0 ≤ h ∧ h < W51) (hl : 0 ≤ l ∧ l < 8192) : orI .u64 (shlI .u64 h 13) l = 8192 * h + l := by
  obtain ⟨h', rfl⟩ := Int.eq_ofNat_of_zero_le hh.1
  obtain ⟨l', rfl⟩ := Int.eq_ofNat_of_zero_le hl.1
  unfold W51 at hh
  have e1 : shlI .u64 (h' : Int) 13 = ((2 ^ 13 * h' : Nat) : Int) := by
    unfold shlI
    show IntKind.u64.wrap ((h' : Int) * 2 ^ 13) = _
    rw [IntKind.wrap_u64]
    omega
  rw [e1, or_add 13 (by omega) (by omega)]
  omega
theorem carF_ok {a b : List Int} (ha : Can a) (hb : Can b) : ∀ j, j ≤ 5 → 0 ≤ carF a b j ∧ carF a b j ≤ 250000000000000000 ∧ (∀ i, j = i + 1 → carF a b j = (sumF a b i 5 + carF a b i) / W51) ∧ (j < 5 → addS ((colF a b j 5).getD 1 0) (carF a b j) 0 % W51 = (sumF a b j 5 + carF a b j) % W51)
  | 0, _ => by
    obtain ⟨⟨⟨q1, q2⟩, q3, q4⟩, h2, h3, h4⟩ := colF_ok ha hb (show 0 < 5 by omega) 5 (Nat.le_refl 5)
    refine ⟨Int.le_refl 0, show (0 : Int) ≤ 250000000000000000 by decide, fun i hi => by omega, fun _ => ?_⟩
    obtain ⟨s1, _⟩ := addSC (x := (colF a b 0 5).getD 1 0) (y := carF a b 0) (c := 0) q3 (Int.le_refl 0) (Int.le_refl 0)
    rw [s1, ← h2]
    unfold V2 W51
    omega
  | j + 1, hj => by
    obtain ⟨c1, c2, _, _⟩ := carF_ok ha hb j (by omega)
    obtain ⟨⟨⟨q1, q2⟩, q3, q4⟩, h2, h3, h4⟩ := colF_ok ha hb (show j < 5 by omega) 5 (Nat.le_refl 5)
    obtain ⟨s1, s2⟩ := addSC (x := (colF a b j 5).getD 1 0) (y := carF a b j) (c := 0) q3 c1 (Int.le_refl 0)
    have key : carF a b (j + 1) = (sumF a b j 5 + carF a b j) / W51 := by
      show orI .u64 (shlI .u64 (IntKind.u64.wrap ((colF a b j 5).getD 0 0 + addC ((colF a b j 5).getD 1 0) (carF a b j) 0)) 13) (shrI .u64 (addS ((colF a b j 5).getD 1 0) (carF a b j) 0) 51) = _
      rw [s1, s2, shr51, ← h2]
      unfold V2 at h2 ⊢
      generalize (colF a b j 5).getD 0 0 = y at *
      generalize (colF a b j 5).getD 1 0 = z at *
      generalize carF a b j = c at *
      unfold W51 at *
      rw [IntWalk.u64_in _ (by omega), or13 (by unfold W51; omega) (by omega)]
      omega
    refine ⟨?_, ?_, fun i hi => by
      have : j = i := by omega
      subst this; exact key, fun hj5 => ?_⟩
    · rw [key]; unfold W51; omega
    · rw [key]; unfold W51; omega
    · obtain ⟨⟨⟨r1, r2⟩, r3, r4⟩, g2, g3, g4⟩ := colF_ok ha hb hj5 5 (Nat.le_refl 5)
      have hc : 0 ≤ carF a b (j + 1) := by rw [key]; unfold W51; omega
      obtain ⟨u1, _⟩ := addSC (x := (colF a b (j + 1) 5).getD 1 0) (y := carF a b (j + 1)) (c := 0) r3 hc (Int.le_refl 0)
      rw [u1, ← g2]
      unfold V2 W51
      omega
theorem sum_val (a b : List Int) : ∃ R, val W51 ((List.range 5).map fun j => sumF a b j 5) 5 = val W51 a 5 * val W51 b 5 - pF * R := by
  refine ⟨(a.getD 1 0 * b.getD 4 0 + a.getD 2 0 * b.getD 3 0 + a.getD 3 0 * b.getD 2 0 + a.getD 4 0 * b.getD 1 0) + W51 * (a.getD 2 0 * b.getD 4 0 + a.getD 3 0 * b.getD 3 0 + a.getD 4 0 * b.getD 2 0) + W51 * W51 * (a.getD 3 0 * b.getD 4 0 + a.getD 4 0 * b.getD 3 0) + W51 * W51 * W51 * (a.getD 4 0 * b.getD 4 0), ?_⟩
  rw [val5, val5, val5, getD_map_range (by omega), getD_map_range (by omega), getD_map_range (by omega), getD_map_range (by omega), getD_map_range (by omega)]
  simp only [sumF, tF, Nat.ble, cond_true, cond_false, Nat.sub_self, Nat.reduceSub, Nat.reduceAdd]
  unfold W51 pF
  grind
theorem mulF_ok {a b : List Int} (ha : Can a) (hb : Can b) : Can (mulF a b) ∧ val W51 (mulF a b) 5 = (val W51 a 5 * val W51 b 5) % pF := by
  let O : List Int := (List.range 5).map fun j => (sumF a b j 5 + carF a b j) % W51
  let L : List Int := (List.range 5).map fun j => match j with
    | 0 => IntKind.u64.wrap (andI .u64 (addS ((colF a b 0 5).getD 1 0) (carF a b 0) 0) maskF + IntKind.u64.wrap (19 * carF a b 5))
    | j + 1 => andI .u64 (addS ((colF a b (j + 1) 5).getD 1 0) (carF a b (j + 1)) 0) maskF
  obtain ⟨c1, c2, _, _⟩ := carF_ok ha hb 5 (Nat.le_refl 5)
  have hO : ∀ j, j < 5 → O.getD j 0 = (sumF a b j 5 + carF a b j) % W51 := fun j hj => getD_map_range hj
  have l0 : L.getD 0 0 = O.getD 0 0 + 19 * carF a b 5 := by
    show ((List.range 5).map _).getD 0 0 = _
    rw [getD_map_range (by omega), hO 0 (by omega)]
    dsimp only
    rw [and51, (carF_ok ha hb 0 (by omega)).2.2.2 (by omega)]
    unfold W51
    rw [IntWalk.u64_in (19 * _) (by omega), IntWalk.u64_in _ (by omega)]
  have ls : ∀ j, j + 1 < 5 → L.getD (j + 1) 0 = O.getD (j + 1) 0 := by
    intro j hj
    show ((List.range 5).map _).getD (j + 1) 0 = _
    rw [getD_map_range hj, hO (j + 1) hj]
    dsimp only
    rw [and51, (carF_ok ha hb (j + 1) (by omega)).2.2.2 hj]
  have fit : Fit 9223372036854775808 L := by
    intro i hi
    cases i with
    | zero => rw [l0, hO 0 hi]; unfold W51; omega
    | succ j => rw [ls j hi, hO (j + 1) hi]; unfold W51; omega
  obtain ⟨r1, r2⟩ := restF_ok fit
  refine ⟨r1, r2.trans ?_⟩
  have hcv := carry_val (B := W51) (L := (List.range 5).map fun j => sumF a b j 5) (out := O) (c := carF a b) (c0 := 0) 5 (fun i hi => by
    rw [hO i hi, getD_map_range hi, (carF_ok ha hb (i + 1) (by omega)).2.2.1 i rfl]
    unfold W51
    omega) rfl
  obtain ⟨R, hR⟩ := sum_val a b
  have hw5 : (W51 : Int) ^ 5 = pF + 19 := by decide
  rw [hw5, hR] at hcv
  have hL : val W51 L 5 = val W51 O 5 + 19 * carF a b 5 := by
    have l1 : L.getD 1 0 = O.getD 1 0 := ls 0 (by omega)
    have l2 : L.getD 2 0 = O.getD 2 0 := ls 1 (by omega)
    have l3 : L.getD 3 0 = O.getD 3 0 := ls 2 (by omega)
    have l4 : L.getD 4 0 = O.getD 4 0 := ls 3 (by omega)
    rw [val5, val5, l0, l1, l2, l3, l4]
    omega
  have hfin : val W51 L 5 = val W51 a 5 * val W51 b 5 - pF * (R + carF a b 5) := by
    rw [hL]
    generalize val W51 a 5 * val W51 b 5 = q at *
    rw [Int.mul_add]
    rw [Int.add_mul] at hcv
    omega
  rw [hfin, sub_mul_emod]
end Go.Proofs.Ytkkekjkfafnahaa.Fd
