/- The plain law of the packages scalar and cressetref10: products as numbers; no condition but that digits are digits. -/
import Derived.Test.YtoglkmebhcnbnaaScn
noncomputable section
namespace Go.Proofs.Ytoglkmebhcnbnaa
open Go Go.RowKit RX

/-- The two halves of a product of 64 bits each. -/
theorem hiP_loP {x y : Int} (hx : 0 ≤ x ∧ x < B64) (hy : 0 ≤ y ∧ y < B64) : hiP x y = x * y / B64 ∧ loP x y = x * y % B64 := by
  unfold B64 at *
  have e32 : (2 : Int) ^ 32 = 4294967296 := by decide
  refine ⟨?_, by unfold loP; rw [IntKind.wrap_u64]⟩
  unfold hiP
  simp only [shrI_eq .u64 _ (show 32 ≤ IntKind.u64.bits by decide), and32_u64, e32]
  have m11 := mul_le (a := x / 4294967296) (b := y / 4294967296) (A := 4294967295) (B := 4294967295) (by omega) (by omega) (by omega) (by omega)
  have m10 := mul_le (a := x / 4294967296) (b := y % 4294967296) (A := 4294967295) (B := 4294967295) (by omega) (by omega) (by omega) (by omega)
  have m01 := mul_le (a := x % 4294967296) (b := y / 4294967296) (A := 4294967295) (B := 4294967295) (by omega) (by omega) (by omega) (by omega)
  have m00 := mul_le (a := x % 4294967296) (b := y % 4294967296) (A := 4294967295) (B := 4294967295) (by omega) (by omega) (by omega) (by omega)
  have exy : x * y = (x / 4294967296 * (y / 4294967296)) * 18446744073709551616 + (x / 4294967296 * (y % 4294967296) + x % 4294967296 * (y / 4294967296)) * 4294967296 + x % 4294967296 * (y % 4294967296) := by
    have h1 := Int.emod_add_mul_ediv x 4294967296
    have h2 := Int.emod_add_mul_ediv y 4294967296
    generalize x / 4294967296 = x1 at *
    generalize x % 4294967296 = x0 at *
    generalize y / 4294967296 = y1 at *
    generalize y % 4294967296 = y0 at *
    subst h1 h2
    grind
  rw [exy]
  generalize x / 4294967296 * (y / 4294967296) = p11 at *
  generalize x / 4294967296 * (y % 4294967296) = p10 at *
  generalize x % 4294967296 * (y / 4294967296) = p01 at *
  generalize x % 4294967296 * (y % 4294967296) = p00 at *
  rw [IntWalk.u64_in p11 (by omega), IntWalk.u64_in p10 (by omega), IntWalk.u64_in p01 (by omega), IntWalk.u64_in p00 (by omega)]
  rw [IntWalk.u64_in (p10 + p00 / 4294967296) (by omega)]
  rw [IntWalk.u64_in (p11 + _) (by omega), IntWalk.u64_in (_ % 4294967296 + p01) (by omega), IntWalk.u64_in _ (by omega)]
  omega
theorem addSC {x y c : Int} (hx : 0 ≤ x) (hy : 0 ≤ y) (hc : 0 ≤ c) : addS x y c = (x + y + c) % B64 ∧ addC x y c = (x + y + c) / B64 := by
  unfold addS addC B64
  obtain ⟨x', rfl⟩ := Int.eq_ofNat_of_zero_le hx
  obtain ⟨y', rfl⟩ := Int.eq_ofNat_of_zero_le hy
  obtain ⟨c', rfl⟩ := Int.eq_ofNat_of_zero_le hc
  simp only [Int.toNat_natCast]
  omega
/-- What is known of a row under way: k digits are done with, 'over' is carried into digit j. -/
structure Row (T : Int) (j : Nat) (s : List Int × Int) : Prop where
  len : s.1.length = 8
  dig : Dig B64 s.1 8
  lo : 0 ≤ s.2
  hi : s.2 < B64
  tot : val B64 s.1 8 + B64 ^ j * s.2 = T
theorem colP_ok {x : Int} (hx : 0 ≤ x ∧ x < B64) {b : List Int} {i k : Nat} (hb : 0 ≤ b.getD k 0 ∧ b.getD k 0 < B64) (hik : i + k < 8) {T : Int} {s : List Int × Int} (h : Row T (i + k) s) :
    Row (T + B64 ^ (i + k) * (x * b.getD k 0)) (i + k + 1) (colP x b i s k) := by
  obtain ⟨len, dig, lo, hi, tot⟩ := h
  obtain ⟨out, over⟩ := s
  dsimp only at *
  have ho := dig (i + k) hik
  obtain ⟨e1, e2⟩ := hiP_loP hx hb
  have hm := mul_le (a := x) (b := b.getD k 0) (A := 18446744073709551615) (B := 18446744073709551615) hx.1 hb.1 (by unfold B64 at hx; omega) (by unfold B64 at hb; omega)
  simp only [colP]
  rw [e1, e2]
  generalize hq : x * b.getD k 0 = q at *
  obtain ⟨a1, a2⟩ := addSC (x := q % B64) (y := over) (c := 0) (by unfold B64; omega) lo (Int.le_refl 0)
  rw [a1, a2]
  obtain ⟨a3, a4⟩ := addSC (x := out.getD (i + k) 0) (y := (q % B64 + over + 0) % B64) (c := 0) ho.1 (by unfold B64; omega) (Int.le_refl 0)
  rw [a3, a4]
  have hlt : i + k < out.length := by omega
  generalize hd : out.getD (i + k) 0 = d at *
  have w1 : IntKind.u64.wrap (q / B64 + (q % B64 + over + 0) / B64) = q / B64 + (q % B64 + over + 0) / B64 := IntWalk.u64_in _ (by unfold B64 at *; omega)
  have w2 : IntKind.u64.wrap (q / B64 + (q % B64 + over + 0) / B64 + (d + (q % B64 + over + 0) % B64 + 0) / B64) = q / B64 + (q % B64 + over + 0) / B64 + (d + (q % B64 + over + 0) % B64 + 0) / B64 := IntWalk.u64_in _ (by unfold B64 at *; omega)
  rw [w1, w2]
  have key : q / B64 + (q % B64 + over + 0) / B64 + (d + (q % B64 + over + 0) % B64 + 0) / B64 = (d + q + over) / B64 ∧ (d + (q % B64 + over + 0) % B64 + 0) % B64 = (d + q + over) % B64 := by unfold B64; omega
  rw [key.1, key.2]
  refine ⟨by simpa using len, Dig.set dig hlt (by unfold B64; omega), by unfold B64 at *; dsimp only; omega, by unfold B64 at *; dsimp only; omega, ?_⟩
  dsimp only
  rw [val_set hlt 8 hik, hd, Int.pow_succ]
  have hdm := Int.emod_add_mul_ediv (d + q + over) B64
  generalize (d + q + over) % B64 = r at *
  generalize (d + q + over) / B64 = c at *
  generalize B64 ^ (i + k) = p at *
  generalize B64 = B at *
  generalize val B out 8 = V at *
  have : d + q + over = r + B * c := hdm.symm
  have h2 : r = d + q + over - B * c := by omega
  subst h2
  grind
theorem tailP_ok {k : Nat} (hk : k < 8) {T : Int} {s : List Int × Int} (h : Row T k s) : Row T (k + 1) (tailP s k) := by
  obtain ⟨len, dig, lo, hi, tot⟩ := h
  obtain ⟨out, over⟩ := s
  dsimp only at *
  have ho := dig k hk
  simp only [tailP]
  obtain ⟨a1, a2⟩ := addSC (x := out.getD k 0) (y := over) (c := 0) ho.1 lo (Int.le_refl 0)
  rw [a1, a2]
  have hlt : k < out.length := by omega
  generalize hd : out.getD k 0 = d at *
  refine ⟨by simpa using len, Dig.set dig hlt (by unfold B64; omega), by unfold B64 at *; dsimp only; omega, by unfold B64 at *; dsimp only; omega, ?_⟩
  dsimp only
  rw [val_set hlt 8 hk, hd, Int.pow_succ]
  have hdm := Int.emod_add_mul_ediv (d + over + 0) B64
  generalize (d + over + 0) % B64 = r at *
  generalize (d + over + 0) / B64 = c at *
  generalize B64 ^ k = p at *
  generalize B64 = B at *
  generalize val B out 8 = V at *
  have h2 : r = d + over - B * c := by omega
  subst h2
  grind
theorem cols_ok {x : Int} (hx : 0 ≤ x ∧ x < B64) {b : List Int} (hb : Dig B64 b 4) {i : Nat} (hi : i < 4) {T : Int} {out : List Int} (h : Row T i (out, 0)) : ∀ n, n ≤ 4 →
    Row (T + B64 ^ i * (x * val B64 b n)) (i + n) ((List.range n).foldl (colP x b i) (out, 0))
  | 0, _ => by simpa [val] using h
  | n + 1, hn => by
    have ih := cols_ok hx hb hi h n (by omega)
    have hc := colP_ok hx (hb n (by omega)) (by omega) ih
    rw [List.range_succ, List.foldl_append, List.foldl_cons, List.foldl_nil]
    have e : T + B64 ^ i * (x * val B64 b n) + B64 ^ (i + n) * (x * b.getD n 0) = T + B64 ^ i * (x * val B64 b (n + 1)) := by
      simp only [val]
      rw [Int.pow_add]
      grind
    rw [e] at hc
    exact hc
theorem tails_ok {T : Int} : ∀ (m : Nat) {k : Nat} {s : List Int × Int}, k + m ≤ 8 → Row T k s → Row T (k + m) ((List.range' k m).foldl tailP s)
  | 0, _, _, _, h => h
  | m + 1, k, s, hm, h => by
    rw [List.range'_succ, List.foldl_cons]
    have := tails_ok m (k := k + 1) (by omega) (tailP_ok (by omega) h)
    rw [show k + 1 + m = k + (m + 1) by omega] at this
    exact this
theorem rowP_ok {a b : List Int} (ha : Dig B64 a 4) (hb : Dig B64 b 4) {i : Nat} (hi : i < 4) {out : List Int} {T : Int} (hl : out.length = 8) (hd : Dig B64 out 8) (hT : val B64 out 8 = T) (hbig : T + B64 ^ i * (a.getD i 0 * val B64 b 4) < B64 ^ 8) :
    (rowP a b out i).length = 8 ∧ Dig B64 (rowP a b out i) 8 ∧ val B64 (rowP a b out i) 8 = T + B64 ^ i * (a.getD i 0 * val B64 b 4) := by
  have h0 : Row T i (out, 0) := ⟨hl, hd, Int.le_refl 0, show (0 : Int) < B64 by decide, by simpa using hT⟩
  have h1 := cols_ok (ha i hi) hb hi h0 4 (Nat.le_refl 4)
  have h2 := tails_ok (4 - i) (k := i + 4) (by omega) h1
  rw [show i + 4 + (4 - i) = 8 by omega] at h2
  obtain ⟨len, dig, lo, _, tot⟩ := h2
  have hv := (val_lt (by decide) dig).1
  have hz : ((List.range' (i + 4) (4 - i)).foldl tailP ((List.range 4).foldl (colP (a.getD i 0) b i) (out, 0))).2 = 0 := by
    generalize ((List.range' (i + 4) (4 - i)).foldl tailP ((List.range 4).foldl (colP (a.getD i 0) b i) (out, 0))) = s at *
    rcases Int.lt_or_le 0 s.2 with hp | hp
    · have hp8 : (0 : Int) < B64 ^ 8 := by decide
      have : B64 ^ 8 * 1 ≤ B64 ^ 8 * s.2 := Int.mul_le_mul_of_nonneg_left (by omega) (Int.le_of_lt hp8)
      omega
    · omega
  refine ⟨len, dig, ?_⟩
  rw [hz, Int.mul_zero, Int.add_zero] at tot
  exact tot
theorem getD_append_zeros (c : List Int) (hc : c.length = 4) (i : Nat) : (c ++ [0, 0, 0, 0]).getD i 0 = if i < 4 then c.getD i 0 else 0 := by
  simp only [List.getD_eq_getElem?_getD, List.getElem?_append, hc]
  split
  · rfl
  · rename_i h
    have : i - 4 = 0 ∨ i - 4 = 1 ∨ i - 4 = 2 ∨ i - 4 = 3 ∨ 4 ≤ i - 4 := by omega
    rcases this with e | e | e | e | e
    · rw [e]; rfl
    · rw [e]; rfl
    · rw [e]; rfl
    · rw [e]; rfl
    · rw [List.getElem?_eq_none (by simpa using e)]; rfl
theorem mulP_ok {a b c : List Int} (ha : Dig B64 a 4) (hb : Dig B64 b 4) (hc : Dig B64 c 4) (hl : c.length = 4) : Dig B64 (mulP a b c) 8 ∧ val B64 (mulP a b c) 8 = val B64 a 4 * val B64 b 4 + val B64 c 4 := by
  obtain ⟨b1, b2⟩ := val_lt (by decide) hb
  obtain ⟨c1, c2⟩ := val_lt (by decide) hc
  have h0 : (c ++ [0, 0, 0, 0]).length = 8 ∧ Dig B64 (c ++ [0, 0, 0, 0]) 8 ∧ val B64 (c ++ [0, 0, 0, 0]) 8 = val B64 c 4 := by
    refine ⟨by simp [hl], fun i hi => ?_, ?_⟩
    · rw [getD_append_zeros c hl]
      split
      · exact hc i (by omega)
      · decide
    · have g := getD_append_zeros c hl
      show val B64 _ (4 + 4) = _
      simp only [val]
      rw [g 7, g 6, g 5, g 4, g 3, g 2, g 1, g 0]
      simp
  have rows : ∀ n, n ≤ 4 → ((List.range n).foldl (rowP a b) (c ++ [0, 0, 0, 0])).length = 8 ∧ Dig B64 ((List.range n).foldl (rowP a b) (c ++ [0, 0, 0, 0])) 8 ∧
      val B64 ((List.range n).foldl (rowP a b) (c ++ [0, 0, 0, 0])) 8 = val B64 c 4 + val B64 a n * val B64 b 4 := by
    intro n
    induction n with
    | zero => intro _; exact ⟨h0.1, h0.2.1, by rw [List.range_zero, List.foldl_nil, h0.2.2]; simp [val]⟩
    | succ n ih =>
      intro hn
      obtain ⟨i1, i2, i3⟩ := ih (by omega)
      rw [List.range_succ, List.foldl_append, List.foldl_cons, List.foldl_nil]
      obtain ⟨a1, a2⟩ := val_lt (by decide) (ha.less hn)
      have e : val B64 c 4 + val B64 a n * val B64 b 4 + B64 ^ n * (a.getD n 0 * val B64 b 4) = val B64 c 4 + val B64 a (n + 1) * val B64 b 4 := by
        simp only [val]
        grind
      have hbig : val B64 c 4 + val B64 a (n + 1) * val B64 b 4 < B64 ^ 8 := by
        have hn' : n + 1 = 1 ∨ n + 1 = 2 ∨ n + 1 = 3 ∨ n + 1 = 4 := by omega
        have hpw : (B64 : Int) ^ (n + 1) ≤ 115792089237316195423570985008687907853269984665640564039457584007913129639936 := by
          rcases hn' with h | h | h | h <;> rw [h] <;> decide
        have q4 : (B64 : Int) ^ 4 = 115792089237316195423570985008687907853269984665640564039457584007913129639936 := by decide
        have q8 : (B64 : Int) ^ 8 = 13407807929942597099574024998205846127479365820592393377723561443721764030073546976801874298166903427690031858186486050853753882811946569946433649006084096 := by decide
        rw [q4] at b2 c2
        have hmul := mul_le (A := 115792089237316195423570985008687907853269984665640564039457584007913129639935) (B := 115792089237316195423570985008687907853269984665640564039457584007913129639935) a1 b1 (by omega) (by omega)
        have hsq : (115792089237316195423570985008687907853269984665640564039457584007913129639935 * 115792089237316195423570985008687907853269984665640564039457584007913129639935 : Int) = 13407807929942597099574024998205846127479365820592393377723561443721764030073315392623399665776056285720014482370779510884422601683867654778417822746804225 := by decide
        rw [hsq] at hmul
        rw [q8]
        generalize val B64 a (n + 1) * val B64 b 4 = q at *
        omega
      obtain ⟨r1, r2, r3⟩ := rowP_ok ha hb (show n < 4 by omega) i1 i2 i3 (by rw [e]; exact hbig)
      exact ⟨r1, r2, by rw [r3, e]⟩
  obtain ⟨_, r2, r3⟩ := rows 4 (Nat.le_refl 4)
  exact ⟨r2, by unfold mulP; rw [r3, Int.add_comm]⟩

/-! ### The reference -/
theorem cellR_range {x y z : List Int} (hx : Dig 65536 x 16) (hy : Dig 65536 y 16) (hz : Dig 65536 z 16) (j : Nat) : ∀ i, i ≤ 16 →
    (0 ≤ cellR x y z j i ∧ cellR x y z j i ≤ i * 4295032831) ∧ (∀ n, i = n + 1 → cellR x y z j i = cellR x y z j n + (if n ≤ j ∧ j < n + 16 then x.getD n 0 * y.getD (j - n) 0 else 0) + (if n = j then z.getD n 0 else 0))
  | 0, _ => by simp [cellR]
  | i + 1, hi => by
    obtain ⟨⟨h1, h2⟩, _⟩ := cellR_range hx hy hz j i (by omega)
    have hxi := hx i (by omega)
    have hzi := hz i (by omega)
    have key : cellR x y z j (i + 1) = cellR x y z j i + (if i ≤ j ∧ j < i + 16 then x.getD i 0 * y.getD (j - i) 0 else 0) + (if i = j then z.getD i 0 else 0) := by
      simp only [cellR]
      by_cases hc : i ≤ j ∧ j < i + 16
      · have hyi := hy (j - i) (by omega)
        have hm := mul_le (a := x.getD i 0) (b := y.getD (j - i) 0) (A := 65535) (B := 65535) hxi.1 hyi.1 (by omega) (by omega)
        have c1 : (Nat.ble i j && Nat.blt (j - i) 16) = true := by simp [Nat.blt]; omega
        rw [c1, if_pos hc]
        simp only [cond_true]
        generalize x.getD i 0 * y.getD (j - i) 0 = q at *
        by_cases e : i = j
        · have c2 : Nat.beq i j = true := by simp [e]
          rw [c2, if_pos e, cond_true, IntWalk.i64_in q (by omega), IntWalk.i64_in (cellR x y z j i + z.getD i 0) (by omega), IntWalk.i64_in _ (by omega)]
          omega
        · have c2 : Nat.beq i j = false := Bool.eq_false_iff.2 fun h5 => e (Nat.eq_of_beq_eq_true h5)
          rw [c2, if_neg e, cond_false, IntWalk.i64_in q (by omega), IntWalk.i64_in _ (by omega)]
          omega
      · have c1 : (Nat.ble i j && Nat.blt (j - i) 16) = false := by
          refine Bool.eq_false_iff.2 fun h5 => ?_
          rw [Bool.and_eq_true] at h5
          have h6 := Nat.le_of_ble_eq_true h5.1
          have h7 : j - i + 1 ≤ 16 := Nat.le_of_ble_eq_true h5.2
          exact hc ⟨h6, by omega⟩
        have e : ¬ i = j := by omega
        rw [c1, if_neg hc, if_neg e]
        simp
    refine ⟨?_, fun n hn => by
      have : i = n := by omega
      subst this; exact key⟩
    rw [key]
    by_cases hc : i ≤ j ∧ j < i + 16
    · have hyi := hy (j - i) (by omega)
      have hm := mul_le (a := x.getD i 0) (b := y.getD (j - i) 0) (A := 65535) (B := 65535) hxi.1 hyi.1 (by omega) (by omega)
      rw [if_pos hc]
      generalize x.getD i 0 * y.getD (j - i) 0 = q at *
      split <;> omega
    · rw [if_neg hc]
      split <;> omega
theorem cellR_val {x y z : List Int} (hx : Dig 65536 x 16) (hy : Dig 65536 y 16) (hz : Dig 65536 z 16) : ∀ i, i ≤ 16 →
    val 65536 ((List.range 32).map fun j => cellR x y z j i) 32 = val 65536 x i * val 65536 y 16 + val 65536 z i
  | 0, _ => by
    have : ∀ n, n ≤ 32 → val 65536 ((List.range 32).map fun j => cellR x y z j 0) n = 0 := by
      intro n hn
      induction n with
      | zero => rfl
      | succ n ih =>
        simp only [val]
        rw [ih (by omega), getD_map_range (by omega)]
        simp [cellR]
    rw [this 32 (Nat.le_refl 32)]
    simp [val]
  | i + 1, hi => by
    have e : (List.range 32).map (fun j => cellR x y z j (i + 1)) = (List.range 32).map fun j => (cellR x y z j i + (if i ≤ j ∧ j < i + 16 then x.getD i 0 * y.getD (j - i) 0 else 0)) + (if i = j then z.getD i 0 else 0) :=
      List.map_congr_left fun j _ => (cellR_range hx hy hz j (i + 1) hi).2 i rfl
    rw [e, val_map_add _ _ _ 32 32 (Nat.le_refl 32), val_map_add _ _ _ 32 32 (Nat.le_refl 32), cellR_val hx hy hz i (by omega), shift_val, val_one _ _ _ 32 32 (Nat.le_refl 32), if_neg (by omega), if_pos (by omega), show min (32 - i) 16 = 16 by omega]
    simp only [val]
    grind
theorem carR_ok {x y z : List Int} (hx : Dig 65536 x 16) (hy : Dig 65536 y 16) (hz : Dig 65536 z 16) : ∀ n, 0 ≤ carR x y z n ∧ carR x y z n < 137438953472 ∧ carR x y z n = (if n = 0 then 0 else carR x y z (n - 1) / 65536) + cellR x y z n 16
  | 0 => by
    obtain ⟨⟨h1, h2⟩, _⟩ := cellR_range hx hy hz 0 16 (Nat.le_refl 16)
    simp only [carR]
    rw [IntWalk.i64_in _ (by omega)]
    simp only [if_true]
    exact ⟨by omega, by omega, trivial⟩
  | n + 1 => by
    obtain ⟨⟨h1, h2⟩, _⟩ := cellR_range hx hy hz (n + 1) 16 (Nat.le_refl 16)
    obtain ⟨i1, i2, _⟩ := carR_ok hx hy hz n
    simp only [carR]
    have e : (2 : Int) ^ 16 = 65536 := by decide
    rw [shrI_eq _ _ (by decide), e, IntWalk.i64_in _ (by omega)]
    simp only [Nat.add_one_ne_zero, if_false, Nat.add_sub_cancel]
    exact ⟨by omega, by omega, trivial⟩
theorem mulR_ok {x y z : List Int} (hx : Dig 65536 x 16) (hy : Dig 65536 y 16) (hz : Dig 65536 z 16) : Dig 65536 (mulR x y z) 32 ∧ val 65536 (mulR x y z) 32 = val 65536 x 16 * val 65536 y 16 + val 65536 z 16 := by
  have hd : Dig 65536 (mulR x y z) 32 := by
    intro i hi
    unfold mulR
    rw [getD_map_range hi, and16]
    omega
  refine ⟨hd, ?_⟩
  have h := carry_val (B := 65536) (L := (List.range 32).map fun j => cellR x y z j 16) (out := mulR x y z) (c := fun i => if i = 0 then 0 else carR x y z (i - 1) / 65536) (c0 := 0) 32 (fun i hi => by
    unfold mulR
    rw [getD_map_range hi, getD_map_range hi, and16]
    obtain ⟨_, _, h3⟩ := carR_ok hx hy hz i
    simp only [Nat.add_one_ne_zero, if_false, Nat.add_sub_cancel]
    omega) rfl
  rw [cellR_val hx hy hz 16 (Nat.le_refl 16)] at h
  obtain ⟨l1, l2⟩ := val_lt (by decide) hd
  obtain ⟨x1, x2⟩ := val_lt (by decide) hx
  obtain ⟨y1, y2⟩ := val_lt (by decide) hy
  obtain ⟨z1, z2⟩ := val_lt (by decide) hz
  obtain ⟨k1, k2, _⟩ := carR_ok hx hy hz 31
  have hmul := mul_le x1 y1 (show val 65536 x 16 ≤ 65536 ^ 16 - 1 by omega) (show val 65536 y 16 ≤ 65536 ^ 16 - 1 by omega)
  simp only [Nat.reduceSub, show ¬ (32 : Nat) = 0 by decide, if_false] at h
  have e16 : (65536 : Int) ^ 16 = 115792089237316195423570985008687907853269984665640564039457584007913129639936 := by decide
  have e32 : (65536 : Int) ^ 32 = 13407807929942597099574024998205846127479365820592393377723561443721764030073546976801874298166903427690031858186486050853753882811946569946433649006084096 := by decide
  have esq : (115792089237316195423570985008687907853269984665640564039457584007913129639936 - 1) * (115792089237316195423570985008687907853269984665640564039457584007913129639936 - 1) = (13407807929942597099574024998205846127479365820592393377723561443721764030073315392623399665776056285720014482370779510884422601683867654778417822746804225 : Int) := by decide
  rw [e16] at hmul z2
  rw [e32] at h l2
  rw [esq] at hmul
  generalize val 65536 x 16 * val 65536 y 16 = q at *
  omega
theorem partsP_len (s : ByteArray) (n : Nat) : (partsP s n).length = n := by simp [partsP]
theorem mulAddP_eq (a b c : ByteArray) : mulAddP a b c = strI ((valS a 32 * valS b 32 + valS c 32) % ordL) := by
  unfold mulAddP strI
  obtain ⟨m1, m2⟩ := mulP_ok (partsP_dig a 4) (partsP_dig b 4) (partsP_dig c 4) (partsP_len c 4)
  obtain ⟨h1, h2⟩ := restP_val m1
  rw [bytesP_eq h1.1, h2, m2, partsP_val a 4 4 (Nat.le_refl 4), partsP_val b 4 4 (Nat.le_refl 4), partsP_val c 4 4 (Nat.le_refl 4)]
theorem mulAddR_eq (a b c : ByteArray) : mulAddR a b c = strI ((valS a 32 * valS b 32 + valS c 32) % ordL) := by
  unfold mulAddR strI
  obtain ⟨m1, m2⟩ := mulR_ok (digitsR_dig a 16) (digitsR_dig b 16) (digitsR_dig c 16)
  obtain ⟨h1, h2⟩ := restR_val m1
  rw [bytesR_eq h1.1, h2, m2, digitsR_val a 16 16 (Nat.le_refl 16), digitsR_val b 16 16 (Nat.le_refl 16), digitsR_val c 16 16 (Nat.le_refl 16)]
theorem mulAddEq (a b c : ByteArray) : mulAddP a b c = mulAddR a b c := by rw [mulAddP_eq, mulAddR_eq]
end Go.Proofs.Ytoglkmebhcnbnaa
