/- The plain law of the package cressetref08: which numbers its digits are; no condition but that digits are digits. -/
import Derived.Test.YtkkekjkfafnahaaFrc
import Derived.Test.YtkkekjkfafnahaaRxP
noncomputable section
namespace Go.Proofs.Ytkkekjkfafnahaa.Fd
open Go Go.RowKit RX
abbrev p25 : Int := 57896044618658097711785492504343953926634992332820282019728792003956564819949
abbrev P256 : Int := 115792089237316195423570985008687907853269984665640564039457584007913129639936
theorem pow256 : (65536 : Int) ^ 16 = P256 := by decide
def Can16 (a : List Int) : Prop := Dig 65536 a 16 ∧ val 65536 a 16 < p25
def Rep16 (a : List Int) (x : Int) : Prop := Can16 a ∧ val 65536 a 16 = x % p25

/-! ### Folding -/
def Big (v : List Int) : Prop := ∀ i, i < 16 → 0 ≤ v.getD i 0 ∧ v.getD i 0 ≤ 72057594037927936
theorem fC_ok {v : List Int} (h : Big v) : ∀ i, i < 16 → 0 ≤ fC v i ∧ fC v i ≤ 72059793061183488 ∧ fC v i = (if i = 0 then 0 else fC v (i - 1) / 65536) + v.getD i 0
  | 0, hi => by
    have h0 := h 0 hi
    simp only [fC]
    rw [IntWalk.i64_in _ (by omega)]
    simp only [if_true]
    refine ⟨by omega, by omega, by omega⟩
  | i + 1, hi => by
    have h0 := h (i + 1) hi
    obtain ⟨h1, h2, _⟩ := fC_ok h i (by omega)
    have e : (2 : Int) ^ 16 = 65536 := by decide
    simp only [fC]
    rw [shrI_eq _ _ (by decide), e, IntWalk.i64_in _ (by omega)]
    simp only [Nat.add_one_ne_zero, if_false, Nat.add_sub_cancel]
    refine ⟨by omega, by omega, by omega⟩
/-- The digits that a round leaves, but for what comes back from the top. -/
def digC (v : List Int) : List Int := (List.range 16).map fun i => fC v i % 65536
theorem digC_getD (v : List Int) {i : Nat} (h : i < 16) : (digC v).getD i 0 = fC v i % 65536 := by unfold digC; rw [getD_map_range h]
theorem digC_dig (v : List Int) : Dig 65536 (digC v) 16 := fun i hi => by rw [digC_getD v hi]; omega
theorem topC_eq (v : List Int) : topC v = fC v 15 / 65536 := by unfold topC; rw [shrI_eq _ _ (by decide)]; rfl
theorem digC_val {v : List Int} (h : Big v) : val 65536 (digC v) 16 + P256 * topC v = val 65536 v 16 := by
  have hc := carry_val (B := 65536) (L := v) (out := digC v) (c := fun i => if i = 0 then 0 else fC v (i - 1) / 65536) (c0 := 0) 16 (fun i hi => by
    obtain ⟨_, _, h3⟩ := fC_ok h i hi
    rw [digC_getD v hi]
    simp only [Nat.add_one_ne_zero, if_false, Nat.add_sub_cancel]
    omega) rfl
  simp only [Nat.reduceSub, show ¬ (16 : Nat) = 0 by decide, if_false] at hc
  rw [topC_eq, ← pow256, hc, Int.zero_add]
theorem topC_range {v : List Int} (h : Big v) : 0 ≤ topC v ∧ topC v ≤ 1099545182208 := by
  obtain ⟨h1, h2, _⟩ := fC_ok h 15 (by omega)
  rw [topC_eq]
  omega
theorem roundR_getD {v : List Int} (h : Big v) {i : Nat} (hi : i < 16) : (roundR v).getD i 0 = (digC v).getD i 0 + (if i = 0 then 38 * topC v else 0) := by
  obtain ⟨t1, t2⟩ := topC_range h
  unfold roundR
  rw [getD_map_range hi, digC_getD v hi]
  cases i with
  | zero =>
    simp only [if_true]
    rw [and16, IntWalk.i64_in (38 * _) (by omega), IntWalk.i64_in _ (by omega)]
  | succ j =>
    simp only [Nat.add_one_ne_zero, if_false]
    rw [and16, Int.add_zero]
theorem val_first (B : Int) {L M : List Int} {x : Int} (h0 : L.getD 0 0 = M.getD 0 0 + x) : ∀ n, (∀ i, i < n + 1 → 0 < i → L.getD i 0 = M.getD i 0) → val B L (n + 1) = val B M (n + 1) + x
  | 0, _ => by simp only [val, Int.pow_zero, Int.one_mul, Int.zero_add]; exact h0
  | n + 1, h => by
    rw [show val B L (n + 1 + 1) = val B L (n + 1) + B ^ (n + 1) * L.getD (n + 1) 0 from rfl, show val B M (n + 1 + 1) = val B M (n + 1) + B ^ (n + 1) * M.getD (n + 1) 0 from rfl,
      val_first B h0 n (fun i hi hp => h i (by omega) hp), h (n + 1) (by omega) (by omega)]
    omega
theorem roundR_val {v : List Int} (h : Big v) : val 65536 (roundR v) 16 = val 65536 (digC v) 16 + 38 * topC v :=
  val_first 65536 (by rw [roundR_getD h (by omega), if_pos rfl]) 15 (fun i hi hp => by rw [roundR_getD h hi, if_neg (by omega), Int.add_zero])
/-- Nothing comes back from the top: the digits are digits. -/
theorem roundR_done {v : List Int} (h : Big v) (ht : topC v = 0) : Dig 65536 (roundR v) 16 ∧ val 65536 (roundR v) 16 = val 65536 v 16 := by
  have hd : ∀ i, i < 16 → (roundR v).getD i 0 = (digC v).getD i 0 := fun i hi => by
    rw [roundR_getD h hi, ht]
    split <;> omega
  refine ⟨fun i hi => by rw [hd i hi]; exact digC_dig v i hi, ?_⟩
  rw [val_congr hd]
  have := digC_val h
  rw [ht] at this
  omega
theorem roundR_big {v : List Int} (h : Big v) : Big (roundR v) := fun i hi => by
  have hd := digC_dig v i hi
  obtain ⟨t1, t2⟩ := topC_range h
  rw [roundR_getD h hi]
  split <;> omega
theorem two_p : P256 = 2 * p25 + 38 := by decide
theorem foldR_ok {v : List Int} (h : ∀ i, i < 16 → 0 ≤ v.getD i 0 ∧ v.getD i 0 ≤ 17592186044416) : Dig 65536 (foldR v) 16 ∧ val 65536 (foldR v) 16 % p25 = val 65536 v 16 % p25 := by
  have hb : Big v := fun i hi => by have := h i hi; omega
  have hb1 := roundR_big hb
  have hb2 := roundR_big hb1
  have g : ∀ i, i < 16 → (foldR v).getD i 0 = bif topC v == 0 then (roundR v).getD i 0 else bif topC (roundR v) == 0 then (roundR (roundR v)).getD i 0 else
      bif topC (roundR (roundR v)) == 0 then (roundR (roundR (roundR v))).getD i 0 else (roundR (roundR (roundR v))).getD i 0 := fun i hi => by unfold foldR; rw [getD_map_range hi]
  have step : ∀ {u : List Int}, Big u → val 65536 (roundR u) 16 = val 65536 u 16 - p25 * (2 * topC u) := fun {u} hu => by
    have h1 := digC_val hu
    rw [roundR_val hu]
    rw [two_p] at h1
    generalize topC u = t at *
    rw [Int.add_mul] at h1
    have e : p25 * (2 * t) = 2 * p25 * t := by rw [← Int.mul_assoc, Int.mul_comm p25 2]
    omega
  by_cases c1 : topC v = 0
  · have g' : ∀ i, i < 16 → (foldR v).getD i 0 = (roundR v).getD i 0 := fun i hi => by rw [g i hi, c1]; rfl
    obtain ⟨d1, d2⟩ := roundR_done hb c1
    exact ⟨fun i hi => by rw [g' i hi]; exact d1 i hi, by rw [val_congr g', d2]⟩
  · have e1 : (topC v == 0) = false := by simpa using c1
    by_cases c2 : topC (roundR v) = 0
    · have g' : ∀ i, i < 16 → (foldR v).getD i 0 = (roundR (roundR v)).getD i 0 := fun i hi => by rw [g i hi, e1, c2]; rfl
      obtain ⟨d1, d2⟩ := roundR_done hb1 c2
      refine ⟨fun i hi => by rw [g' i hi]; exact d1 i hi, ?_⟩
      rw [val_congr g', d2, step hb, Int.sub_eq_add_neg, ← Int.mul_neg, Int.add_mul_emod_self_left]
    · have e2 : (topC (roundR v) == 0) = false := by simpa using c2
      have g' : ∀ i, i < 16 → (foldR v).getD i 0 = (roundR (roundR (roundR v))).getD i 0 := fun i hi => by
        rw [g i hi, e1, e2]
        cases (topC (roundR (roundR v)) == 0) <;> rfl
      have c3 : topC (roundR (roundR v)) = 0 := by
        have v0 := digC_val hb
        obtain ⟨l1, l2⟩ := val_le (B := 65536) (M := 17592186044416) (by decide) (by decide) 16 h
        rw [pow256] at l2
        have dv := val_lt (by decide) (digC_dig v)
        rw [pow256] at dv
        have v1 := roundR_val hb
        have w1 := digC_val hb1
        have dw := val_lt (by decide) (digC_dig (roundR v))
        rw [pow256] at dw
        have v2 := roundR_val hb1
        have w2 := digC_val hb2
        have dx := val_lt (by decide) (digC_dig (roundR (roundR v)))
        rw [pow256] at dx
        have t0 := (topC_range hb).1
        have t1 := (topC_range hb1).1
        have t2 := (topC_range hb2).1
        generalize topC v = a at *
        generalize topC (roundR v) = b at *
        generalize topC (roundR (roundR v)) = c at *
        unfold P256 at *
        omega
      obtain ⟨d1, d2⟩ := roundR_done hb2 c3
      refine ⟨fun i hi => by rw [g' i hi]; exact d1 i hi, ?_⟩
      rw [val_congr g', d2, step hb1, step hb, Int.sub_eq_add_neg, ← Int.mul_neg, Int.add_mul_emod_self_left, Int.sub_eq_add_neg, ← Int.mul_neg, Int.add_mul_emod_self_left]

/-! ### Below p -/
theorem bC_ok {u : List Int} (h : Dig 65536 u 16) : ∀ i, i < 16 → 0 ≤ bC u i ∧ bC u i ≤ 131072 ∧ bC u i = (if i = 0 then 19 else bC u (i - 1) / 65536) + u.getD i 0
  | 0, hi => by
    have h0 := h 0 hi
    simp only [bC]
    rw [IntWalk.i64_in _ (by omega)]
    simp only [if_true]
    refine ⟨by omega, by omega, trivial⟩
  | i + 1, hi => by
    have h0 := h (i + 1) hi
    obtain ⟨h1, h2, _⟩ := bC_ok h i (by omega)
    have e : (2 : Int) ^ 16 = 65536 := by decide
    simp only [bC]
    rw [shrI_eq _ _ (by decide), e, IntWalk.i64_in _ (by omega)]
    simp only [Nat.add_one_ne_zero, if_false, Nat.add_sub_cancel]
    refine ⟨by omega, by omega, trivial⟩
def digN (u : List Int) : List Int := (List.range 16).map fun i => bC u i % 65536
theorem digN_getD (u : List Int) {i : Nat} (h : i < 16) : (digN u).getD i 0 = bC u i % 65536 := by unfold digN; rw [getD_map_range h]
theorem digN_dig (u : List Int) : Dig 65536 (digN u) 16 := fun i hi => by rw [digN_getD u hi]; omega
theorem digN_val {u : List Int} (h : Dig 65536 u 16) : val 65536 (digN u) 16 + P256 * (bC u 15 / 65536) = val 65536 u 16 + 19 := by
  have hc := carry_val (B := 65536) (L := u) (out := digN u) (c := fun i => if i = 0 then 19 else bC u (i - 1) / 65536) (c0 := 19) 16 (fun i hi => by
    obtain ⟨_, _, h3⟩ := bC_ok h i hi
    rw [digN_getD u hi]
    simp only [Nat.add_one_ne_zero, if_false, Nat.add_sub_cancel]
    omega) rfl
  simp only [Nat.reduceSub, show ¬ (16 : Nat) = 0 by decide, if_false] at hc
  rw [← pow256, hc, Int.add_comm]
theorem val16_top (B : Int) (L : List Int) : val B L 16 = val B L 15 + B ^ 15 * L.getD 15 0 := rfl
/-- One look: if it is p or more, p is taken off. -/
def lookB (u : List Int) : List Int := bif decide (andI .i64 (bC u 15) 65535 ≥ 32768) then nextB u else bif decide (shrI .i64 (bC u 15) 16 > 0) then nextB u else u
theorem lookB_ok {u : List Int} (h : Dig 65536 u 16) : Dig 65536 (lookB u) 16 ∧ val 65536 (lookB u) 16 = if val 65536 u 16 < p25 then val 65536 u 16 else val 65536 u 16 - p25 := by
  have hv := digN_val h
  obtain ⟨b1, b2, _⟩ := bC_ok h 15 (by omega)
  have dl := val_lt (by decide) ((digN_dig u).less (show 15 ≤ 16 by omega))
  have dv := val_lt (by decide) (digN_dig u)
  have uv := val_lt (by decide) h
  rw [pow256] at dv uv
  have e15 : (65536 : Int) ^ 15 = 1766847064778384329583297500742918515827483896875618958121606201292619776 := by decide
  rw [e15] at dl
  have htop := val16_top 65536 (digN u)
  rw [digN_getD u (show 15 < 16 by omega), e15] at htop
  have esh : shrI .i64 (bC u 15) 16 = bC u 15 / 65536 := by rw [shrI_eq _ _ (by decide)]; rfl
  have hnext : ∀ i, i < 15 → (nextB u).getD i 0 = (digN u).getD i 0 := fun i hi => by
    unfold nextB
    rw [getD_map_range (by omega), digN_getD u (by omega)]
    have : (i == 15) = false := by simp; omega
    rw [this, cond_false, and16]
  have hn15 : (nextB u).getD 15 0 = bC u 15 % 65536 - 32768 + 65536 * (bC u 15 / 65536) := by
    unfold nextB
    rw [getD_map_range (by omega)]
    show IntKind.i64.wrap (IntKind.i64.wrap (andI .i64 (bC u 15) 65535 - 32768) + IntKind.i64.wrap (65536 * shrI .i64 (bC u 15) 16)) = _
    rw [and16, esh, IntWalk.i64_in (_ - 32768) (by omega), IntWalk.i64_in (65536 * _) (by omega), IntWalk.i64_in _ (by omega)]
  have take : p25 ≤ val 65536 u 16 → Dig 65536 (nextB u) 16 ∧ val 65536 (nextB u) 16 = val 65536 u 16 - p25 := by
    intro hge
    constructor
    · intro i hi
      by_cases hi' : i < 15
      · rw [hnext i hi']; exact digN_dig u i hi
      · have : i = 15 := by omega
        subst this
        rw [hn15]
        unfold P256 p25 at *
        omega
    · rw [val16_top 65536 (nextB u), hn15, e15, val_congr hnext]
      unfold P256 p25 at *
      omega
  by_cases hge : p25 ≤ val 65536 u 16
  · have hl : lookB u = nextB u := by
      unfold lookB
      rw [and16, esh]
      by_cases c1 : bC u 15 % 65536 ≥ 32768
      · rw [decide_eq_true c1]; rfl
      · have c2 : bC u 15 / 65536 > 0 := by
          unfold P256 p25 at *
          omega
        rw [decide_eq_false c1, decide_eq_true c2]; rfl
    rw [hl, if_neg (by omega)]
    exact take hge
  · have hl : lookB u = u := by
      unfold lookB
      rw [and16, esh]
      have c1 : ¬ bC u 15 % 65536 ≥ 32768 := by
        unfold P256 p25 at *
        omega
      have c2 : ¬ bC u 15 / 65536 > 0 := by
        unfold P256 p25 at *
        omega
      rw [decide_eq_false c1, decide_eq_false c2]; rfl
    rw [hl, if_pos (by omega)]
    exact ⟨h, rfl⟩
theorem belowR_look (u : List Int) : belowR u = bif decide (u.getD 15 0 < 32767) then u else lookB (lookB u) := by
  unfold belowR lookB lastB
  cases h1 : decide (u.getD 15 0 < 32767) <;> cases h2 : decide (andI .i64 (bC u 15) 65535 ≥ 32768) <;> cases h3 : decide (shrI .i64 (bC u 15) 16 > 0) <;> simp only [cond_true, cond_false, h2, h3]
theorem belowR_ok {u : List Int} (h : Dig 65536 u 16) : Can16 (belowR u) ∧ val 65536 (belowR u) 16 = val 65536 u 16 % p25 := by
  have uv := val_lt (by decide) h
  rw [pow256] at uv
  rw [belowR_look]
  by_cases c : u.getD 15 0 < 32767
  · rw [decide_eq_true c, cond_true]
    have dl := val_lt (by decide) (h.less (show 15 ≤ 16 by omega))
    have e15 : (65536 : Int) ^ 15 = 1766847064778384329583297500742918515827483896875618958121606201292619776 := by decide
    have ht := val16_top 65536 u
    rw [e15] at dl ht
    have hlt : val 65536 u 16 < p25 := by
      unfold p25
      omega
    exact ⟨⟨h, hlt⟩, (Int.emod_eq_of_lt uv.1 hlt).symm⟩
  · rw [decide_eq_false c, cond_false]
    obtain ⟨d1, v1⟩ := lookB_ok h
    obtain ⟨d2, v2⟩ := lookB_ok d1
    have key : val 65536 (lookB (lookB u)) 16 = val 65536 u 16 % p25 ∧ val 65536 (lookB (lookB u)) 16 < p25 := by
      by_cases q1 : val 65536 u 16 < p25
      · rw [if_pos q1] at v1
        rw [v1, if_pos q1] at v2
        rw [v2]
        unfold P256 p25 at *
        omega
      · rw [if_neg q1] at v1
        rw [v1] at v2
        by_cases q2 : val 65536 u 16 - p25 < p25
        · rw [if_pos q2] at v2
          rw [v2]
          unfold P256 p25 at *
          omega
        · rw [if_neg q2] at v2
          rw [v2]
          unfold P256 p25 at *
          omega
    exact ⟨⟨d2, key.2⟩, key.1⟩
theorem Rep16.of_fold {v : List Int} (h : ∀ i, i < 16 → 0 ≤ v.getD i 0 ∧ v.getD i 0 ≤ 17592186044416) {x : Int} (hx : val 65536 v 16 % p25 = x % p25) : Rep16 (belowR (toLen 16 (foldR v))) x := by
  obtain ⟨f1, f2⟩ := foldR_ok h
  obtain ⟨b1, b2⟩ := belowR_ok (Dig.toLen f1)
  exact ⟨b1, by rw [b2, val_toLen (Nat.le_refl 16), f2, hx]⟩
end Go.Proofs.Ytkkekjkfafnahaa.Fd
