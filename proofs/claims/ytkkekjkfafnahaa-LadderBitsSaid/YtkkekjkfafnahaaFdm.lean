/- The plain law of the package field: which numbers its parts are; no condition but that parts are parts. -/
import Derived.Test.YtkkekjkfafnahaaFdb
import Derived.Test.YtkkekjkfafnahaaRxP
noncomputable section
namespace Go.Proofs.Ytkkekjkfafnahaa.Fd
open Go Go.RowKit RX
abbrev W51 : Int := 2251799813685248
abbrev pF : Int := 57896044618658097711785492504343953926634992332820282019728792003956564819949
/-- Parts of a number below p. -/
def Can (a : List Int) : Prop := Dig W51 a 5 ∧ val W51 a 5 < pF
theorem and51 (n : Int) : andI .u64 n maskF = n % W51 := by
  have hm : (BitVec.ofInt 64 maskF).toNat = 2 ^ 51 - 1 := by decide
  have key : (BitVec.ofInt 64 n &&& BitVec.ofInt 64 maskF).toNat = (n % ((2 ^ 64 : Nat) : Int)).toNat % 2 ^ 51 := by
    rw [BitVec.toNat_and, BitVec.toNat_ofInt, hm, Nat.and_two_pow_sub_one_eq_mod]
  show IntKind.u64.wrap ((BitVec.ofInt 64 n &&& BitVec.ofInt 64 maskF).toNat : Nat) = n % W51
  rw [key, IntKind.wrap_u64]
  unfold W51
  omega
theorem shr51 (n : Int) : shrI .u64 n 51 = n / W51 := by rw [shrI_eq _ _ (by decide)]; rfl
theorem val5 (B : Int) (a : List Int) : val B a 5 = a.getD 0 0 + B * a.getD 1 0 + B * B * a.getD 2 0 + B * B * B * a.getD 3 0 + B * B * B * B * a.getD 4 0 := by
  simp only [val, Int.pow_succ, Int.pow_zero, Int.one_mul, Int.zero_add]
theorem dig5 {B : Int} {a : List Int} (h0 : 0 ≤ a.getD 0 0 ∧ a.getD 0 0 < B) (h1 : 0 ≤ a.getD 1 0 ∧ a.getD 1 0 < B) (h2 : 0 ≤ a.getD 2 0 ∧ a.getD 2 0 < B) (h3 : 0 ≤ a.getD 3 0 ∧ a.getD 3 0 < B) (h4 : 0 ≤ a.getD 4 0 ∧ a.getD 4 0 < B) : Dig B a 5 := by
  intro i hi
  have : i = 0 ∨ i = 1 ∨ i = 2 ∨ i = 3 ∨ i = 4 := by omega
  rcases this with rfl | rfl | rfl | rfl | rfl
  · exact h0
  · exact h1
  · exact h2
  · exact h3
  · exact h4
theorem carriedF_0 (v : List Int) : (carriedF v).getD 0 0 = IntKind.u64.wrap (andI .u64 (cF v 0) maskF + IntKind.u64.wrap (19 * shrI .u64 (cF v 4) 51)) := by unfold carriedF; rw [getD_map_range (by omega)]
theorem carriedF_s (v : List Int) {j : Nat} (h : j + 1 < 5) : (carriedF v).getD (j + 1) 0 = andI .u64 (cF v (j + 1)) maskF := by unfold carriedF; rw [getD_map_range h]
/-- Parts that are not too great. -/
def Fit (M : Int) (v : List Int) : Prop := ∀ i, i < 5 → 0 ≤ v.getD i 0 ∧ v.getD i 0 < M
theorem carriedF_eq {v : List Int} (h : Fit 9223372036854775808 v) : ∃ d0 d1 d2 d3 d4 c0 c1 c2 c3 c4 : Int,
    (d0 + W51 * c0 = v.getD 0 0 ∧ d1 + W51 * c1 = v.getD 1 0 + c0 ∧ d2 + W51 * c2 = v.getD 2 0 + c1 ∧ d3 + W51 * c3 = v.getD 3 0 + c2 ∧ d4 + W51 * c4 = v.getD 4 0 + c3) ∧
    ((0 ≤ d0 ∧ d0 < W51) ∧ (0 ≤ d1 ∧ d1 < W51) ∧ (0 ≤ d2 ∧ d2 < W51) ∧ (0 ≤ d3 ∧ d3 < W51) ∧ (0 ≤ d4 ∧ d4 < W51)) ∧
    ((0 ≤ c0 ∧ c0 ≤ 4096) ∧ (0 ≤ c1 ∧ c1 ≤ 4096) ∧ (0 ≤ c2 ∧ c2 ≤ 4096) ∧ (0 ≤ c3 ∧ c3 ≤ 4096) ∧ (0 ≤ c4 ∧ c4 ≤ 4096)) ∧
    (carriedF v).getD 0 0 = d0 + 19 * c4 ∧ (carriedF v).getD 1 0 = d1 ∧ (carriedF v).getD 2 0 = d2 ∧ (carriedF v).getD 3 0 = d3 ∧ (carriedF v).getD 4 0 = d4 := by
  have h0 := h 0 (by omega)
  have h1 := h 1 (by omega)
  have h2 := h 2 (by omega)
  have h3 := h 3 (by omega)
  have h4 := h 4 (by omega)
  have e0 : cF v 0 = v.getD 0 0 := by simp only [cF]; rw [IntWalk.u64_in _ (by omega), Int.add_zero]
  have e1 : cF v 1 = v.getD 1 0 + cF v 0 / W51 := by rw [show cF v 1 = IntKind.u64.wrap (v.getD 1 0 + shrI .u64 (cF v 0) 51) from rfl, shr51, e0, IntWalk.u64_in _ (by unfold W51; omega)]
  have b1 : 0 ≤ cF v 1 ∧ cF v 1 ≤ 9223372036854775807 + 4096 := by rw [e1, e0]; unfold W51; omega
  have e2 : cF v 2 = v.getD 2 0 + cF v 1 / W51 := by rw [show cF v 2 = IntKind.u64.wrap (v.getD 2 0 + shrI .u64 (cF v 1) 51) from rfl, shr51, IntWalk.u64_in _ (by unfold W51; omega)]
  have b2 : 0 ≤ cF v 2 ∧ cF v 2 ≤ 9223372036854775807 + 4096 := by rw [e2]; unfold W51; omega
  have e3 : cF v 3 = v.getD 3 0 + cF v 2 / W51 := by rw [show cF v 3 = IntKind.u64.wrap (v.getD 3 0 + shrI .u64 (cF v 2) 51) from rfl, shr51, IntWalk.u64_in _ (by unfold W51; omega)]
  have b3 : 0 ≤ cF v 3 ∧ cF v 3 ≤ 9223372036854775807 + 4096 := by rw [e3]; unfold W51; omega
  have e4 : cF v 4 = v.getD 4 0 + cF v 3 / W51 := by rw [show cF v 4 = IntKind.u64.wrap (v.getD 4 0 + shrI .u64 (cF v 3) 51) from rfl, shr51, IntWalk.u64_in _ (by unfold W51; omega)]
  have b4 : 0 ≤ cF v 4 ∧ cF v 4 ≤ 9223372036854775807 + 4096 := by rw [e4]; unfold W51; omega
  refine ⟨cF v 0 % W51, cF v 1 % W51, cF v 2 % W51, cF v 3 % W51, cF v 4 % W51, cF v 0 / W51, cF v 1 / W51, cF v 2 / W51, cF v 3 / W51, cF v 4 / W51, ⟨?_, ?_, ?_, ?_, ?_⟩, ?_, ?_, ?_, ?_, ?_, ?_, ?_⟩
  · rw [e0]; unfold W51; omega
  · rw [← e1]; unfold W51; omega
  · rw [← e2]; unfold W51; omega
  · rw [← e3]; unfold W51; omega
  · rw [← e4]; unfold W51; omega
  · unfold W51; refine ⟨⟨?_, ?_⟩, ⟨?_, ?_⟩, ⟨?_, ?_⟩, ⟨?_, ?_⟩, ⟨?_, ?_⟩⟩ <;> omega
  · rw [e0]; unfold W51; refine ⟨⟨?_, ?_⟩, ⟨?_, ?_⟩, ⟨?_, ?_⟩, ⟨?_, ?_⟩, ⟨?_, ?_⟩⟩ <;> omega
  · rw [carriedF_0, and51, shr51, IntWalk.u64_in (19 * _) (by unfold W51; omega), IntWalk.u64_in _ (by unfold W51; omega)]
  · rw [carriedF_s v (by omega), and51]
  · rw [carriedF_s v (by omega), and51]
  · rw [carriedF_s v (by omega), and51]
  · rw [carriedF_s v (by omega), and51]
theorem carried_once {v : List Int} (h : Fit 9223372036854775808 v) : ∃ c, val W51 (carriedF v) 5 = val W51 v 5 - pF * c ∧ (0 ≤ (carriedF v).getD 0 0 ∧ (carriedF v).getD 0 0 < W51 + 77824) ∧
    (0 ≤ (carriedF v).getD 1 0 ∧ (carriedF v).getD 1 0 < W51) ∧ (0 ≤ (carriedF v).getD 2 0 ∧ (carriedF v).getD 2 0 < W51) ∧ (0 ≤ (carriedF v).getD 3 0 ∧ (carriedF v).getD 3 0 < W51) ∧ (0 ≤ (carriedF v).getD 4 0 ∧ (carriedF v).getD 4 0 < W51) := by
  obtain ⟨d0, d1, d2, d3, d4, c0, c1, c2, c3, c4, ⟨e0, e1, e2, e3, e4⟩, hd, hc, g0, g1, g2, g3, g4⟩ := carriedF_eq h
  refine ⟨c4, ?_, ?_, ?_, ?_, ?_, ?_⟩
  · rw [val5, val5, g0, g1, g2, g3, g4]
    unfold W51 pF at *
    omega
  · rw [g0]; unfold W51 at *; omega
  · rw [g1]; exact hd.2.1
  · rw [g2]; exact hd.2.2.1
  · rw [g3]; exact hd.2.2.2.1
  · rw [g4]; exact hd.2.2.2.2
/-- A second time: all parts are below 2 to the 51. -/
theorem carried_twice {v : List Int} (h0 : 0 ≤ v.getD 0 0 ∧ v.getD 0 0 < W51 + 77824) (h1 : 0 ≤ v.getD 1 0 ∧ v.getD 1 0 < W51) (h2 : 0 ≤ v.getD 2 0 ∧ v.getD 2 0 < W51) (h3 : 0 ≤ v.getD 3 0 ∧ v.getD 3 0 < W51) (h4 : 0 ≤ v.getD 4 0 ∧ v.getD 4 0 < W51) :
    Dig W51 (carriedF v) 5 ∧ ∃ c, val W51 (carriedF v) 5 = val W51 v 5 - pF * c := by
  have hf : Fit 9223372036854775808 v := by
    unfold W51 at *
    exact dig5 (by omega) (by omega) (by omega) (by omega) (by omega)
  obtain ⟨d0, d1, d2, d3, d4, c0, c1, c2, c3, c4, ⟨e0, e1, e2, e3, e4⟩, hd, hc, g0, g1, g2, g3, g4⟩ := carriedF_eq hf
  refine ⟨dig5 ?_ ?_ ?_ ?_ ?_, c4, ?_⟩
  · rw [g0]
    unfold W51 at *
    have k0 : c0 ≤ 1 := by omega
    have k1 : c1 ≤ 1 := by omega
    have k2 : c2 ≤ 1 := by omega
    have k3 : c3 ≤ 1 := by omega
    have k4 : c4 ≤ 1 := by omega
    by_cases hz : c4 = 0
    · omega
    · have l3 : c3 = 1 := by omega
      have l2 : c2 = 1 := by omega
      have l1 : c1 = 1 := by omega
      have l0 : c0 = 1 := by omega
      omega
  · rw [g1]; exact hd.2.1
  · rw [g2]; exact hd.2.2.1
  · rw [g3]; exact hd.2.2.2.1
  · rw [g4]; exact hd.2.2.2.2
  · rw [val5, val5, g0, g1, g2, g3, g4]
    unfold W51 pF at *
    omega
theorem rF_eq {u : List Int} (h : Dig W51 u 5) : ∃ d0 d1 d2 d3 d4 c0 c1 c2 c3 c4 : Int,
    (d0 + W51 * c0 = u.getD 0 0 + 19 ∧ d1 + W51 * c1 = u.getD 1 0 + c0 ∧ d2 + W51 * c2 = u.getD 2 0 + c1 ∧ d3 + W51 * c3 = u.getD 3 0 + c2 ∧ d4 + W51 * c4 = u.getD 4 0 + c3) ∧
    ((0 ≤ d0 ∧ d0 < W51) ∧ (0 ≤ d1 ∧ d1 < W51) ∧ (0 ≤ d2 ∧ d2 < W51) ∧ (0 ≤ d3 ∧ d3 < W51) ∧ (0 ≤ d4 ∧ d4 < W51)) ∧ shrI .u64 (rF u 4) 51 = c4 ∧ 0 ≤ c4 ∧
    andI .u64 (rF u 0) maskF = d0 ∧ andI .u64 (rF u 1) maskF = d1 ∧ andI .u64 (rF u 2) maskF = d2 ∧ andI .u64 (rF u 3) maskF = d3 ∧ andI .u64 (rF u 4) maskF = d4 := by
  have h0 := h 0 (by omega)
  have h1 := h 1 (by omega)
  have h2 := h 2 (by omega)
  have h3 := h 3 (by omega)
  have h4 := h 4 (by omega)
  have e0 : rF u 0 = u.getD 0 0 + 19 := by simp only [rF]; rw [IntWalk.u64_in _ (by unfold W51 at *; omega)]
  have b0 : 0 ≤ rF u 0 ∧ rF u 0 ≤ W51 + 19 := by rw [e0]; unfold W51 at *; omega
  have e1 : rF u 1 = u.getD 1 0 + rF u 0 / W51 := by rw [show rF u 1 = IntKind.u64.wrap (u.getD 1 0 + shrI .u64 (rF u 0) 51) from rfl, shr51, IntWalk.u64_in _ (by unfold W51 at *; omega)]
  have b1 : 0 ≤ rF u 1 ∧ rF u 1 ≤ W51 + 19 := by rw [e1]; unfold W51 at *; omega
  have e2 : rF u 2 = u.getD 2 0 + rF u 1 / W51 := by rw [show rF u 2 = IntKind.u64.wrap (u.getD 2 0 + shrI .u64 (rF u 1) 51) from rfl, shr51, IntWalk.u64_in _ (by unfold W51 at *; omega)]
  have b2 : 0 ≤ rF u 2 ∧ rF u 2 ≤ W51 + 19 := by rw [e2]; unfold W51 at *; omega
  have e3 : rF u 3 = u.getD 3 0 + rF u 2 / W51 := by rw [show rF u 3 = IntKind.u64.wrap (u.getD 3 0 + shrI .u64 (rF u 2) 51) from rfl, shr51, IntWalk.u64_in _ (by unfold W51 at *; omega)]
  have b3 : 0 ≤ rF u 3 ∧ rF u 3 ≤ W51 + 19 := by rw [e3]; unfold W51 at *; omega
  have e4 : rF u 4 = u.getD 4 0 + rF u 3 / W51 := by rw [show rF u 4 = IntKind.u64.wrap (u.getD 4 0 + shrI .u64 (rF u 3) 51) from rfl, shr51, IntWalk.u64_in _ (by unfold W51 at *; omega)]
  have b4 : 0 ≤ rF u 4 ∧ rF u 4 ≤ W51 + 19 := by rw [e4]; unfold W51 at *; omega
  refine ⟨rF u 0 % W51, rF u 1 % W51, rF u 2 % W51, rF u 3 % W51, rF u 4 % W51, rF u 0 / W51, rF u 1 / W51, rF u 2 / W51, rF u 3 / W51, rF u 4 / W51, ⟨?_, ?_, ?_, ?_, ?_⟩, ?_, shr51 _, ?_, and51 _, and51 _, and51 _, and51 _, and51 _⟩
  · rw [← e0]; unfold W51; omega
  · rw [← e1]; unfold W51; omega
  · rw [← e2]; unfold W51; omega
  · rw [← e3]; unfold W51; omega
  · rw [← e4]; unfold W51; omega
  · unfold W51; refine ⟨⟨?_, ?_⟩, ⟨?_, ?_⟩, ⟨?_, ?_⟩, ⟨?_, ?_⟩, ⟨?_, ?_⟩⟩ <;> omega
  · unfold W51; omega
theorem belowF_getD (u : List Int) {i : Nat} (h : i < 5) : (belowF u).getD i 0 = bif decide (shrI .u64 (rF u 4) 51 > 0) then andI .u64 (rF u i) maskF else u.getD i 0 := by unfold belowF; rw [getD_map_range h]
theorem belowF_ok {u : List Int} (h : Dig W51 u 5) : Can (belowF u) ∧ val W51 (belowF u) 5 = val W51 u 5 % pF := by
  obtain ⟨d0, d1, d2, d3, d4, c0, c1, c2, c3, c4, ⟨e0, e1, e2, e3, e4⟩, hd, g4, hc, a0, a1, a2, a3, a4⟩ := rF_eq h
  obtain ⟨v0, v1⟩ := val_lt (by decide) h
  have g := fun i (hi : i < 5) => belowF_getD u hi
  rw [g4] at g
  have h0 := h 0 (by omega)
  have h1 := h 1 (by omega)
  have h2 := h 2 (by omega)
  have h3 := h 3 (by omega)
  have h4 := h 4 (by omega)
  have hw5 : (W51 : Int) ^ 5 = pF + 19 := by decide
  rw [hw5] at v1
  have hv := val5 W51 u
  by_cases hp : c4 > 0
  · rw [decide_eq_true hp] at g
    simp only [cond_true] at g
    have f0 := g 0 (by omega)
    have f1 := g 1 (by omega)
    have f2 := g 2 (by omega)
    have f3 := g 3 (by omega)
    have f4 := g 4 (by omega)
    rw [a0] at f0; rw [a1] at f1; rw [a2] at f2; rw [a3] at f3; rw [a4] at f4
    have hb := val5 W51 (belowF u)
    rw [f0, f1, f2, f3, f4] at hb
    have key : val W51 (belowF u) 5 = val W51 u 5 - pF := by
      rw [hb]
      unfold W51 pF at *
      omega
    have hge : pF ≤ val W51 u 5 := by
      unfold W51 pF at *
      omega
    refine ⟨⟨dig5 (by rw [f0]; exact hd.1) (by rw [f1]; exact hd.2.1) (by rw [f2]; exact hd.2.2.1) (by rw [f3]; exact hd.2.2.2.1) (by rw [f4]; exact hd.2.2.2.2), ?_⟩, ?_⟩
    · rw [key]; unfold pF at *; omega
    · rw [key]; unfold pF at *; omega
  · rw [decide_eq_false hp] at g
    simp only [cond_false] at g
    have hlt : val W51 u 5 < pF := by
      have hz : c4 = 0 := by omega
      unfold W51 pF at *
      omega
    have hb : val W51 (belowF u) 5 = val W51 u 5 := val_congr g
    refine ⟨⟨fun i hi => by rw [g i hi]; exact h i hi, by rw [hb]; exact hlt⟩, ?_⟩
    rw [hb, Int.emod_eq_of_lt v0 hlt]
theorem sub_mul_emod (a c : Int) : (a - pF * c) % pF = a % pF := by
  rw [Int.sub_eq_add_neg, ← Int.mul_neg, Int.add_mul_emod_self_left]
theorem restF_ok {v : List Int} (h : Fit 9223372036854775808 v) : Can (restF v) ∧ val W51 (restF v) 5 = val W51 v 5 % pF := by
  obtain ⟨c, hc, h0, h1, h2, h3, h4⟩ := carried_once h
  have t : ∀ i, i < 5 → (toLen 5 (carriedF v)).getD i 0 = (carriedF v).getD i 0 := fun i hi => toLen_getD hi
  obtain ⟨d, c', hc'⟩ := carried_twice (v := toLen 5 (carriedF v)) (by rw [t 0 (by omega)]; exact h0) (by rw [t 1 (by omega)]; exact h1) (by rw [t 2 (by omega)]; exact h2) (by rw [t 3 (by omega)]; exact h3) (by rw [t 4 (by omega)]; exact h4)
  rw [val_toLen (Nat.le_refl 5), hc] at hc'
  obtain ⟨b1, b2⟩ := belowF_ok d.toLen
  refine ⟨b1, b2.trans ?_⟩
  rw [val_toLen (Nat.le_refl 5), hc', sub_mul_emod, sub_mul_emod]
theorem Can.fit {a : List Int} (h : Can a) : Fit W51 a := h.1
theorem addF_ok {a b : List Int} (ha : Can a) (hb : Can b) : Can (addF a b) ∧ val W51 (addF a b) 5 = (val W51 a 5 + val W51 b 5) % pF := by
  have key : ∀ i, i < 5 → ((List.range 5).map fun i => IntKind.u64.wrap (a.getD i 0 + b.getD i 0)).getD i 0 = a.getD i 0 + b.getD i 0 := by
    intro i hi
    have h1 := ha.1 i hi
    have h2 := hb.1 i hi
    rw [getD_map_range hi, IntWalk.u64_in _ (by unfold W51 at *; omega)]
  obtain ⟨r1, r2⟩ := restF_ok (v := (List.range 5).map fun i => IntKind.u64.wrap (a.getD i 0 + b.getD i 0)) (fun i hi => by
    have h1 := ha.1 i hi
    have h2 := hb.1 i hi
    rw [key i hi]; unfold W51 at *; omega)
  refine ⟨r1, r2.trans ?_⟩
  congr 1
  rw [val5, val5, val5, key 0 (by omega), key 1 (by omega), key 2 (by omega), key 3 (by omega), key 4 (by omega)]
  grind
theorem subF_ok {a b : List Int} (ha : Can a) (hb : Can b) : Can (subF a b) ∧ val W51 (subF a b) 5 = (val W51 a 5 - val W51 b 5) % pF := by
  let L : List Int := (List.range 5).map fun i => match i with
    | 0 => IntKind.u64.wrap (IntKind.u64.wrap (a.getD 0 0 + IntKind.u64.wrap (4503599627370494 - b.getD 0 0)) - 36)
    | j + 1 => IntKind.u64.wrap (a.getD (j + 1) 0 + IntKind.u64.wrap (4503599627370494 - b.getD (j + 1) 0))
  have k0 : L.getD 0 0 = a.getD 0 0 + 4503599627370494 - b.getD 0 0 - 36 := by
    have h1 := ha.1 0 (by omega)
    have h2 := hb.1 0 (by omega)
    show ((List.range 5).map _).getD 0 0 = _
    rw [getD_map_range (by omega)]
    dsimp only
    unfold W51 at *
    rw [IntWalk.u64_in (4503599627370494 - _) (by omega), IntWalk.u64_in (_ + (4503599627370494 - _)) (by omega), IntWalk.u64_in _ (by omega)]
    omega
  have ks : ∀ j, j + 1 < 5 → L.getD (j + 1) 0 = a.getD (j + 1) 0 + 4503599627370494 - b.getD (j + 1) 0 := by
    intro j hj
    have h1 := ha.1 (j + 1) hj
    have h2 := hb.1 (j + 1) hj
    show ((List.range 5).map _).getD (j + 1) 0 = _
    rw [getD_map_range hj]
    dsimp only
    unfold W51 at *
    rw [IntWalk.u64_in (4503599627370494 - _) (by omega), IntWalk.u64_in _ (by omega)]
    omega
  have fit : Fit 9223372036854775808 L := by
    intro i hi
    have h1 := ha.1 i hi
    have h2 := hb.1 i hi
    cases i with
    | zero => rw [k0]; unfold W51 at *; omega
    | succ j => rw [ks j hi]; unfold W51 at *; omega
  obtain ⟨r1, r2⟩ := restF_ok fit
  refine ⟨r1, r2.trans ?_⟩
  have hv : val W51 L 5 = val W51 a 5 - val W51 b 5 - pF * (-2) := by
    have k1 : L.getD 1 0 = a.getD 1 0 + 4503599627370494 - b.getD 1 0 := ks 0 (by omega)
    have k2 : L.getD 2 0 = a.getD 2 0 + 4503599627370494 - b.getD 2 0 := ks 1 (by omega)
    have k3 : L.getD 3 0 = a.getD 3 0 + 4503599627370494 - b.getD 3 0 := ks 2 (by omega)
    have k4 : L.getD 4 0 = a.getD 4 0 + 4503599627370494 - b.getD 4 0 := ks 3 (by omega)
    rw [val5, val5, val5, k0, k1, k2, k3, k4]
    unfold W51 pF
    omega
  rw [hv, sub_mul_emod]
end Go.Proofs.Ytkkekjkfafnahaa.Fd
