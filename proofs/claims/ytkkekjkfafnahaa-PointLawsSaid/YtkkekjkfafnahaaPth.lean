/- The plain law of points: what is read is written again; sums in any order; Zero; no time a point; the examples. -/
import Derived.Test.YtkkekjkfafnahaaPtg
import Derived.Test.YtkkekjkfafnahaaLdg
noncomputable section
namespace Go.Proofs.Ytkkekjkfafnahaa.Fd
open Go Go.RowKit RX
set_option linter.unusedSimpArgs false
set_option maxRecDepth 1000000
theorem byV_congr {v w : PV} (hx : qxV v % pF = qxV w % pF) (hy : qyV v % pF = qyV w % pF) : byV v = byV w := by unfold byV; rw [hx, hy]
theorem topV_byte {y x : Int} {j : Nat} (h : j < 32) : (topV y x).getD j 0 = if j = 31 then orI .u8 (y / 256 ^ 31 % 256) (shlI .u8 (x % 2) 7) else y / 256 ^ j % 256 := by
  unfold topV
  rw [getD_map_range h]
  match j, h with
  | 31, _ => rfl
  | 0, _ | 1, _ | 2, _ | 3, _ | 4, _ | 5, _ | 6, _ | 7, _ | 8, _ | 9, _ | 10, _ | 11, _ | 12, _ | 13, _ | 14, _ | 15, _ | 16, _ | 17, _ | 18, _ | 19, _ | 20, _ | 21, _ | 22, _ | 23, _ | 24, _ | 25, _ | 26, _ | 27, _ | 28, _ | 29, _ | 30, _ => rfl
  | k + 32, h => omega
theorem byV_size (v : PV) : (byV v).size = 32 := bytesN_size _ _
theorem top31 : ∀ b : Fin 256, ∀ x : Fin 2, 0 ≤ orI .u8 ((b : Nat) : Int) (shlI .u8 ((x : Nat) : Int) 7) ∧ orI .u8 ((b : Nat) : Int) (shlI .u8 ((x : Nat) : Int) 7) ≤ 255 := by decide +kernel
theorem byV_byte (v : PV) {j : Nat} (h : j < 32) : sbyte (byV v) j = if j = 31 then orI .u8 (qyV v % pF / 256 ^ 31 % 256) (shlI .u8 (qxV v % pF % 2) 7) else qyV v % pF / 256 ^ j % 256 := by
  have e := topV_byte (y := qyV v % pF) (x := qxV v % pF) h
  unfold byV
  rw [bytesN_sbyte h (by
    rw [e]
    split
    · have e1 := top31 ⟨(qyV v % pF / 256 ^ 31 % 256).toNat, by omega⟩ ⟨(qxV v % pF % 2).toNat, by omega⟩
      simp only [Int.toNat_of_nonneg (show 0 ≤ qyV v % pF / 256 ^ 31 % 256 by omega), Int.toNat_of_nonneg (show 0 ≤ qxV v % pF % 2 by omega)] at e1
      exact e1
    · omega), e]
/-! ### What is read is written again -/
theorem neg_mod {p f : Int} (h0 : 0 < p) (h : f % p ≠ 0) : (0 - f) % p = p - f % p := by
  have h1 := Int.emod_nonneg f (show p ≠ 0 by omega)
  have h2 := Int.emod_lt_of_pos f h0
  have e1 : 0 - f = (p - f % p) + p * (- (f / p) - 1) := by
    have := Int.emod_add_mul_ediv f p
    rw [Int.mul_sub, Int.mul_neg, Int.mul_one]
    omega
  rw [e1, Int.add_mul_emod_self_left, Int.emod_eq_of_lt (by omega) (by omega)]
theorem neg_even {p f : Int} (hp : p % 2 = 1) (h0 : 0 < p) (h : f % p % 2 = 1) : (0 - f) % p % 2 = 0 := by
  rw [neg_mod h0 (by omega)]
  omega
theorem neg_odd {p f : Int} (hp : p % 2 = 1) (h0 : 0 < p) (h : f % p % 2 = 0) (hn : f % p ≠ 0) : (0 - f) % p % 2 = 1 := by
  rw [neg_mod h0 hn]
  omega
theorem rV_even (x : Int) : rV x % pF % 2 = 0 := by
  unfold rV
  split
  · split
    · rename_i h
      exact neg_even (by decide) (by decide) h
    · rename_i h
      generalize fV x % pF = a at h ⊢
      omega
  · decide
theorem pow1 (x : Int) (n : Nat) : x * 1 ^ n = x := by rw [Int.one_pow, Int.mul_one]
theorem mask_getD (s : ByteArray) {i : Nat} (hi : i < 32) : (maskL s).getD i 0 = if i = 31 then andI .u8 (sbyte s 31) 127 else sbyte s i := by
  unfold maskL
  rw [getD_map_range hi]
  split
  · rw [if_pos rfl]
  · rename_i e
    rw [if_neg (fun h => e h)]
theorem back_ok {s : ByteArray} (hs : s.size = 32) (hb : badP s = false) : byV (ptV s) = s := by
  unfold badP at hb
  simp only [Bool.or_eq_false_iff, Bool.and_eq_false_iff] at hb
  obtain ⟨h1, _, h3⟩ := hb
  have hy : strI (yV s % pF) = maskS s := by
    have e : BF (ofF (maskS s)) = strI (yV s % pF) := BF_ok (ofF_ok _)
    unfold noByP at h1
    rw [e, toList_beq] at h1
    simpa using h1
  have qy : qyV (ptV s) = yV s := pow1 _ _
  have qx : qxV (ptV s) = xV s := pow1 _ _
  have hxo : xV s % pF % 2 = if oddP s = true then 1 else 0 := by
    have he := rV_even (wV s)
    unfold xV
    rcases h3 with h3 | h3
    · rw [h3, if_neg (by simp), if_neg (by simp)]; exact he
    · by_cases c : oddP s = true
      · rw [if_pos c, if_pos c]
        have hx : rV (wV s) % pF ≠ 0 := by
          intro e
          have h2 : xzP s = decide (rV (wV s) % pF = 0 % pF) := by
            unfold xzP
            have e := Rep.inj (xP_ok s) zeroF_can
            rw [show RX.toLen 5 (xP s) = xP s from toLen_toLen 5 _, show RX.toLen 5 zeroF = zeroF from rfl] at e
            rw [Bool.eq_iff_iff, beq_iff_eq, decide_eq_true_eq]
            exact e
          rw [h3, e] at h2
          exact absurd h2 (by decide)
        exact neg_odd (by decide) (by decide) he hx
      · rw [if_neg c, if_neg c]; exact he
  refine str_ext (by rw [byV_size, hs]) fun i hi => ?_
  rw [byV_size] at hi
  rw [byV_byte _ hi, qy, qx, hxo]
  have hm : yV s % pF / 256 ^ i % 256 = sbyte (maskS s) i := by rw [← hy, strI_sbyte _ hi]
  have hms : (maskL s).length = 32 := by simp [maskL]
  have hb := sbyte_le s i
  have k127 : ∀ n : Fin 256, 0 ≤ andI .u8 ((n : Nat) : Int) 127 ∧ andI .u8 ((n : Nat) : Int) 127 ≤ 255 := by decide +kernel
  have hml := mask_getD s hi
  by_cases c : i = 31
  · subst c
    rw [if_pos rfl, hm]
    have e2 : sbyte (maskS s) ((31 : Nat) : Int) = andI .u8 (sbyte s 31) 127 := by
      have h31 := sbyte_le s 31
      have e := k127 ⟨(sbyte s 31).toNat, by omega⟩
      simp only [Int.toNat_of_nonneg h31.1] at e
      unfold maskS
      rw [sbyte_strOfNums (by rw [hms]; decide) (by rw [hml]; exact e), hml]
      rfl
    rw [e2]
    unfold oddP
    have h31 := sbyte_le s 31
    have key : ∀ n : Fin 256, orI .u8 (andI .u8 ((n : Nat) : Int) 127) (shlI .u8 (if (shrI .u8 ((n : Nat) : Int) 7 == 1) = true then 1 else 0) 7) = ((n : Nat) : Int) := by decide +kernel
    have e := key ⟨(sbyte s 31).toNat, by omega⟩
    simp only [Int.toNat_of_nonneg h31.1] at e
    exact e
  · rw [if_neg c, hm]
    unfold maskS
    rw [sbyte_strOfNums (by rw [hms]; exact hi) (by rw [hml, if_neg c]; exact hb), hml, if_neg c]
/-! ### Sums -/
theorem addV_comm (k : Int) (v w : PV) : addV k v w = addV k w v := by
  have ha : aV v w = aV w v := Int.mul_comm _ _
  have hb : bV v w = bV w v := Int.mul_comm _ _
  have hc : cV v w k = cV w v k := by
    unfold cV
    rw [Int.mul_right_comm, Int.mul_comm v.t, Int.mul_right_comm]
  have hd : dV v w = dV w v := by
    unfold dV
    rw [Int.add_mul, Int.add_mul, Int.mul_comm v.z]
  unfold addV
  rw [ha, hb, hc, hd]
theorem inv4 : ((4 : Int) * 4 ^ (2 ^ 255 - 21)) % pF = 1 := by
  rw [Int.mul_comm, ← Int.pow_succ]
  exact pow_is (x := 4) (n := 255) (r := 1) (by decide) (by decide +kernel)
theorem addV_zero {v : PV} (hz : v.z = 1) : byV (addV kV v zeroV) = byV v := by
  have hx : (addV kV v zeroV).x = v.x * 4 := by
    show ((v.y + v.x) * (1 + 0) - (v.y - v.x) * (1 - 0)) * ((v.z + v.z) * 1 - v.t * kV * 0) = _
    rw [hz, Int.mul_zero]
    omega
  have hy : (addV kV v zeroV).y = v.y * 4 := by
    show ((v.z + v.z) * 1 + v.t * kV * 0) * ((v.y + v.x) * (1 + 0) + (v.y - v.x) * (1 - 0)) = _
    rw [hz, Int.mul_zero]
    omega
  have hzz : (addV kV v zeroV).z = 4 := by
    show ((v.z + v.z) * 1 - v.t * kV * 0) * ((v.z + v.z) * 1 + v.t * kV * 0) = _
    rw [hz, Int.mul_zero]
    rfl
  refine byV_congr ?_ ?_
  · unfold qxV
    rw [hx, hzz, hz, pow1, Int.mul_assoc, Int.mul_emod, inv4, Int.mul_one, Int.emod_emod]
  · unfold qyV
    rw [hy, hzz, hz, pow1, Int.mul_assoc, Int.mul_emod, inv4, Int.mul_one, Int.emod_emod]
def smallS (b : Int) : ByteArray := strOfNums [b] ++ strOfNums (List.replicate 31 0)
theorem smallS_size (b : Int) : (smallS b).size = 32 := by unfold smallS; rw [ByteArray.size_append, strOfNums_size, strOfNums_size]; rfl
theorem byV_one : byV zeroV = smallS 1 := by
  have h1 : qyV zeroV = 1 := pow1 1 _
  have h2 : qxV zeroV = 0 := Int.zero_mul _
  unfold byV
  rw [h1, h2]
  decide +kernel
/-! ### No time a point -/
theorem dbl_zero (a : Int) : addV kV ⟨0, a, a, 0⟩ ⟨0, a, a, 0⟩ = ⟨0, 4 * (a * a * (a * a)), 4 * (a * a * (a * a)), 0⟩ := by
  have e1 : aV ⟨0, a, a, 0⟩ ⟨0, a, a, 0⟩ = a * a := by unfold aV; simp only [Int.sub_zero]
  have e2 : bV ⟨0, a, a, 0⟩ ⟨0, a, a, 0⟩ = a * a := by unfold bV; simp only [Int.add_zero]
  have e3 : cV ⟨0, a, a, 0⟩ ⟨0, a, a, 0⟩ kV = 0 := by unfold cV; simp only [Int.zero_mul]
  have e4 : dV ⟨0, a, a, 0⟩ ⟨0, a, a, 0⟩ = a * a + a * a := by unfold dV; simp only [Int.add_mul]
  have e5 : (a * a + a * a) * (a * a + a * a) = 4 * (a * a * (a * a)) := by
    generalize a * a = b
    rw [Int.add_mul, Int.mul_add]
    omega
  unfold addV
  rw [e1, e2, e3, e4]
  simp only [Int.sub_self, Int.zero_mul, Int.sub_zero, Int.add_zero, e5]
theorem mulV_no {bit : Nat → Bool} (h : ∀ i, bit i = false) (p : PV) : ∀ i, ∃ m : Nat, mulV bit p i = ⟨0, 2 ^ m, 2 ^ m, 0⟩
  | 0 => ⟨0, rfl⟩
  | i + 1 => by
    obtain ⟨m, hm⟩ := mulV_no h p i
    refine ⟨2 + ((m + m) + (m + m)), ?_⟩
    rw [mulV, h, cond_false, hm, dbl_zero, Int.pow_add, Int.pow_add, Int.pow_add]
    rfl
theorem inv2m (m : Nat) : ((2 : Int) ^ m * (2 ^ m) ^ (2 ^ 255 - 21)) % pF = 1 := by
  have e1 : ((2 : Int) ^ (2 ^ 255 - 21) * 2) % pF = 1 := inv2.trans (by decide)
  have e : ∀ m : Nat, ((2 : Int) ^ m * (2 ^ m) ^ (2 ^ 255 - 21)) = (2 ^ (2 ^ 255 - 21) * 2) ^ m := fun m => by
    rw [Int.mul_pow, ← Int.pow_mul, ← Int.pow_mul, Nat.mul_comm m, Int.mul_comm]
  rw [e]
  generalize ((2 : Int) ^ (2 ^ 255 - 21) * 2) = u at e1 ⊢
  clear e
  induction m with
  | zero => rw [Int.pow_zero]; decide
  | succ n ih => rw [Int.pow_succ, Int.mul_emod, ih, e1]; decide
theorem times_no {n : ByteArray} (h : ∀ i, bitS n i = false) (p : PV) (i : Nat) : byV (mulV (bitS n) p i) = smallS 1 := by
  obtain ⟨m, hm⟩ := mulV_no h p i
  rw [hm, ← byV_one]
  refine byV_congr ?_ ?_
  · unfold qxV zeroV
    simp only [Int.zero_mul]
  · show ((2 : Int) ^ m * (2 ^ m) ^ (2 ^ 255 - 21)) % pF = (1 * 1 ^ (2 ^ 255 - 21)) % pF
    rw [inv2m, pow1]
    decide
theorem small0_bytes : ∀ j : Nat, sbyte (smallS 0) j = 0 := by
  intro j
  rcases Nat.lt_or_ge j 32 with h | h
  · exact (by decide +kernel : ∀ j : Fin 32, sbyte (smallS 0) (j : Nat) = 0) ⟨j, h⟩
  · have hz : (smallS 0).data.toList.length = 32 := by
      have := smallS_size 0
      rw [← this]
      simp
    rw [sbyte_nat]
    simp only [List.getD_eq_getElem?_getD]
    rw [List.getElem?_eq_none (by omega)]
    rfl
theorem small0_bits (i : Nat) : bitS (smallS 0) i = false := by
  unfold bitS
  rw [small0_bytes]
  have key : ∀ k : Fin 8, (andI .u8 (shrI .u8 0 (k : Nat)) 1 == 1) = false := by decide +kernel
  exact key ⟨i % 8, by omega⟩
/-! ### The examples, reckoned -/
theorem Cg.pw {X : Int} {x : Nat} (h : Cg X x) {e r n : Nat} (he : e < 2 ^ n) (hr : pm pN n x e 1 % pN = r) : Cg (X ^ e) r := by
  have hp : 0 < pN := by decide
  have hlt : r < pN := by rw [← hr]; exact Nat.mod_lt _ hp
  unfold Cg
  rw [Cg.pow h, pow_is he hr, Int.emod_eq_of_lt (by omega) (by rw [← pN_eq]; omega)]
def facN : Nat := 37095705934669439343138083508754565189542113879843219016388785533085940283555
theorem facV_is : Cg factorV facN := by
  have e : ((121666 : Int) ^ (2 ^ 255 - 21)) % pF = ((pm pN 255 121666 (2 ^ 255 - 21) 1 % pN : Nat) : Int) := pow_is (x := 121666) (n := 255) (by decide) rfl
  unfold Cg factorV
  rw [Int.mul_emod, e]
  decide +kernel
theorem wV_is {s : ByteArray} {y d i w : Nat} (hy : valS (maskS s) 32 = (y : Int)) (hd : (facN * (y * y % pN) % pN + 1) % pN = d) (hi : pm pN 255 d (2 ^ 255 - 21) 1 % pN = i) (hw : subN (y * y % pN) 1 * i % pN = w) : Cg (wV s) w := by
  have h0 : Cg (yV s) y := by unfold Cg yV; rw [hy]
  have yy := h0.mul h0
  have dd := (facV_is.mul yy).add (Cg.const 1)
  rw [hd] at dd
  have r := (yy.sub (Cg.const 1)).mul (dd.pw (e := 2 ^ 255 - 21) (n := 255) (by decide) hi)
  rw [hw] at r
  exact r
theorem fV_is {x : Int} {w g : Nat} (hx : Cg x w) (hg : pm pN 253 w eG 1 % pN = g) : fV x % pF = if (g * g % pN : Nat) = w % pN then ((g % pN : Nat) : Int) else ((g * iC % pN : Nat) : Int) := by
  have hp : 0 < pN := by decide
  have h1 : gV x % pF = (g : Int) := by
    have e := hx.pw (e := eG) (n := 253) (by decide) hg
    have hlt : g < pN := by rw [← hg]; exact Nat.mod_lt _ hp
    unfold Cg at e
    rw [show gV x = x ^ eG from rfl, e, Int.emod_eq_of_lt (by omega) (by rw [← pN_eq]; omega)]
  rw [fV_mod h1, hx, ← pN_eq]
  have e1 : ((g : Int) * g % (pN : Int) = (w : Int) % (pN : Int)) ↔ (g * g % pN : Nat) = w % pN := by
    rw [← Int.natCast_mul, ← Int.natCast_emod, ← Int.natCast_emod]
    exact Int.ofNat_inj
  by_cases c : (g * g % pN : Nat) = w % pN
  · rw [if_pos c, if_pos (e1.2 c), Int.natCast_emod]
  · rw [if_neg c, if_neg (fun h => c (e1.1 h)), Int.natCast_emod, Int.natCast_mul]
theorem hV_is {x : Int} {w f : Nat} (hx : Cg x w) (hf : fV x % pF = (f : Int)) : hV x = decide ((f * f % pN : Nat) = w % pN) := by
  unfold hV
  rw [Bool.eq_iff_iff, decide_eq_true_eq, decide_eq_true_eq, sq_mod hf, hx, ← pN_eq, ← Int.natCast_mul, ← Int.natCast_emod, ← Int.natCast_emod]
  exact Int.ofNat_inj
def byN : Nat := 46316835694926478169428394003475163141307993866256225615783033603165251855960
def bw : Nat := 26187595835145689230469591415084376402084551887632582719101735842039498021991
def bg : Nat := 42783823269122696939284341094755422415180979639778424813682678720006717057747
def w2N : Nat := 43446857792565604583783486763960003913525092658904367978015407342224011949000
def g2N : Nat := 14338592854287887293089085338583150111196058255013460242972335260120833939431
def f2N : Nat := 15185035556283238358358299567679723596735194429604445868805687310551713597428
theorem base_is : baseS = strI byN := by
  have e : bV0 % pF = byN := by
    have h : Cg (5 ^ (2 ^ 255 - 21) : Int) (pm pN 255 5 (2 ^ 255 - 21) 1 % pN) := Cg.pw (Cg.const 5) (by decide) rfl
    have h2 := (Cg.const 4).mul h
    unfold Cg at h2
    show ((4 : Nat) : Int) * 5 ^ (2 ^ 255 - 21) % pF = _
    rw [h2]
    decide +kernel
  rw [baseS_is, e]
theorem baseQ_eq : baseSQ = baseS := by rw [baseSQ_is, baseS_is]
theorem base_y : valS (maskS (strI byN)) 32 = (byN : Int) := by decide +kernel
theorem ok_of {s : ByteArray} {y : Nat} (hy : valS (maskS s) 32 = (y : Int)) (hm : maskS s = strI y) (hlt : y < pN) (ho : oddP s = false) : badP s = !hV (wV s) := by
  have h1 : noByP s = false := by
    have e : BF (ofF (maskS s)) = strI (yV s % pF) := BF_ok (ofF_ok _)
    unfold noByP
    rw [e, toList_beq]
    have e2 : yV s % pF = y := by
      unfold yV
      rw [hy, ← pN_eq, Int.emod_eq_of_lt (by omega) (by omega)]
    rw [e2, hm, decide_eq_true rfl]
    rfl
  have h2 : noRtP s = !hV (wV s) := by
    unfold noRtP
    rw [hasF_ok (wP_ok s).toLen (toLen_toLen 5 _)]
  unfold badP
  rw [h1, h2, ho, Bool.false_or, Bool.false_and, Bool.or_false]
theorem base_ok : badP baseS = false := by
  rw [base_is, ok_of base_y (by decide +kernel) (by decide +kernel) (by decide +kernel)]
  have hw : Cg (wV (strI byN)) bw := wV_is base_y rfl rfl (by decide +kernel)
  have hf : fV (wV (strI byN)) % pF = (bg : Int) := by
    rw [fV_is (g := bg) hw (by decide +kernel), if_pos (by decide +kernel)]
    decide +kernel
  rw [hV_is hw hf]
  decide +kernel
theorem baseS_size : baseS.size = 32 := by rw [base_is]; exact strI_size _
theorem y_small (b : Nat) (h : b < 3) : valS (maskS (smallS b)) 32 = (b : Int) ∧ maskS (smallS b) = strI b ∧ oddP (smallS b) = false := by
  have key : ∀ b : Fin 3, valS (maskS (smallS ((b : Nat) : Int))) 32 = ((b : Nat) : Int) ∧ maskS (smallS ((b : Nat) : Int)) = strI ((b : Nat) : Int) ∧ oddP (smallS ((b : Nat) : Int)) = false := by decide +kernel
  exact key ⟨b, h⟩
theorem small0_ok : badP (smallS ((0 : Nat) : Int)) = false := by
  obtain ⟨h1, h2, h3⟩ := y_small 0 (by decide)
  rw [ok_of h1 h2 (by decide +kernel) h3]
  have hw : Cg (wV (smallS ((0 : Nat) : Int))) (pN - 1) := wV_is h1 rfl rfl (by decide +kernel)
  have hf : fV (wV (smallS ((0 : Nat) : Int))) % pF = (iC : Int) := by
    rw [fV_is (g := 1) hw (by decide +kernel), if_neg (by decide +kernel)]
    decide +kernel
  rw [hV_is hw hf]
  decide +kernel
theorem small2_bad : badP (smallS ((2 : Nat) : Int)) = true := by
  obtain ⟨h1, h2, h3⟩ := y_small 2 (by decide)
  rw [ok_of h1 h2 (by decide +kernel) h3]
  have hw : Cg (wV (smallS ((2 : Nat) : Int))) w2N := wV_is h1 rfl rfl (by decide +kernel)
  have hf : fV (wV (smallS ((2 : Nat) : Int))) % pF = (f2N : Int) := by
    rw [fV_is (g := g2N) hw (by decide +kernel), if_neg (by decide +kernel)]
    decide +kernel
  rw [hV_is hw hf]
  decide +kernel
end Go.Proofs.Ytkkekjkfafnahaa.Fd
