/- The walk of the statements of layer 8: the examples; what a number is, sums, products, inverses, roots. -/
import Derived.Test.YtkkekjkfafnahaaFla
import Derived.Test.YtkkekjkfafnahaaRxO
noncomputable section
namespace Go.Proofs.Ytkkekjkfafnahaa.Fd
open Go Go.RowKit RX
set_option linter.unusedSimpArgs false
def yes : TT := .leaf (bool1 true)
def no : TT := .leaf (bool1 false)
theorem yes_wp : yes.wp (fun x => x = bool1 true) := rfl
def BF (L : List Int) : ByteArray := bytesN 32 (bytesF (toLen 5 L))
def BR (L : List Int) : ByteArray := bytesN 32 (bytesR (toLen 16 L))
theorem BF_ok {L : List Int} {x : Int} (h : Rep L x) : BF L = strI (x % pF) := h.toLen.bytes
theorem BR_ok {L : List Int} {x : Int} (h : Rep16 L x) : BR L = strI (x % pF) := h.toLen.bytes
theorem BFR {L M : List Int} {x y : Int} (h : Rep L x) (g : Rep16 M y) (e : x % pF = y % pF) : ((BF L).toList == (BR M).toList) = true := by
  rw [BF_ok h, BR_ok g, e]; exact beq_self_eq_true _
theorem BFF {L M : List Int} {x y : Int} (h : Rep L x) (g : Rep M y) (e : x % pF = y % pF) : ((BF L).toList == (BF M).toList) = true := by
  rw [BF_ok h, BF_ok g, e]; exact beq_self_eq_true _
theorem BFFn {L M : List Int} {x y : Int} (h : Rep L x) (g : Rep M y) (e : x % pF = y % pF) : (!((BF L).toList == (BF M).toList)) = false := by rw [BFF h g e]; rfl

/-! ### Powers, reckoned -/
def pm (p : Nat) : Nat → Nat → Nat → Nat → Nat
  | 0, _, _, acc => acc
  | n + 1, x, e, acc => pm p n (x * x % p) (e / 2) (bif e % 2 == 1 then acc * x % p else acc)
theorem pm_ok (p : Nat) : ∀ n x e acc, e < 2 ^ n → pm p n x e acc % p = acc * x ^ e % p
  | 0, x, e, acc, h => by
    have : e = 0 := by simpa using h
    subst this
    simp [pm]
  | n + 1, x, e, acc, h => by
    have hd : e / 2 < 2 ^ n := by rw [Nat.pow_succ] at h; omega
    rw [pm, pm_ok p n _ _ _ hd]
    have e1 : (x * x % p) ^ (e / 2) % p = (x ^ 2) ^ (e / 2) % p := by rw [← Nat.pow_mod, Nat.pow_two]
    rw [Nat.mul_mod, e1, ← Nat.mul_mod, ← Nat.pow_mul]
    rcases Nat.mod_two_eq_zero_or_one e with h0 | h1
    · rw [h0]
      simp only [show ((0 : Nat) == 1) = false by rfl, cond_false]
      congr 3
      omega
    · rw [h1]
      simp only [show ((1 : Nat) == 1) = true by rfl, cond_true]
      rw [Nat.mul_mod, Nat.mod_mod, ← Nat.mul_mod, Nat.mul_assoc, ← Nat.pow_succ']
      congr 3
      omega
def pN : Nat := 2 ^ 255 - 19
theorem pN_eq : (pN : Int) = pF := by decide
theorem pow_is {x e r n : Nat} (h : e < 2 ^ n) (hr : pm pN n x e 1 % pN = r) : ((x : Int) ^ e) % pF = r := by
  rw [← hr, pm_ok pN n x e 1 h, Nat.one_mul, Int.natCast_emod, Int.natCast_pow, pN_eq]
def iC : Nat := 19681161376707505956807079304988542015446066515923890162744021073123829784752
def g4C : Nat := 39362322753415011913614158609977084030892133031847780325488042146247659569504
def g2C : Nat := 19681161376707505956807079304988542015446066515923890162744021073123829784753
theorem gV4 : gV 4 % pF = g4C := pow_is (x := 4) (n := 253) (by decide) (by decide +kernel)
theorem gV2 : gV 2 % pF = g2C := pow_is (x := 2) (n := 253) (by decide) (by decide +kernel)
theorem iV_is : iV % pF = iC := pow_is (x := 2) (n := 254) (by decide) (by decide +kernel)
theorem inv2 : ((2 : Int) ^ (2 ^ 255 - 21) * 2) % pF = 1 % pF := by
  rw [← Int.pow_succ]
  exact pow_is (x := 2) (n := 255) (r := 1) (by decide) (by decide +kernel)
theorem fV_mod {x g : Int} (hg : gV x % pF = g) : fV x % pF = if g * g % pF = x % pF then g % pF else g * iC % pF := by
  subst hg
  have e : gV x % pF * (gV x % pF) % pF = gV x * gV x % pF := by rw [← Int.mul_emod]
  rw [e]
  unfold fV
  by_cases h : gV x * gV x % pF = x % pF
  · rw [if_pos h, if_pos h, Int.emod_emod]
  · rw [if_neg h, if_neg h, Int.mul_emod, iV_is]
theorem f4 : fV 4 % pF = pF - 2 := by rw [fV_mod gV4]; decide +kernel
theorem f2C : ∃ f : Int, fV 2 % pF = f ∧ f * f % pF ≠ 2 := ⟨_, fV_mod gV2, by decide +kernel⟩
theorem sq_mod {x f : Int} (h : x % pF = f) : x * x % pF = f * f % pF := by rw [Int.mul_emod, h]
theorem hV4 : hV 4 = true := by
  unfold hV
  rw [sq_mod f4]
  decide +kernel
theorem hV2 : hV 2 = false := by
  obtain ⟨f, h, g⟩ := f2C
  unfold hV
  rw [sq_mod h]
  exact decide_eq_false fun e => g (by rw [e]; decide)
theorem rV4 : rV 4 % pF = 2 := by
  unfold rV
  rw [if_pos (by rw [sq_mod f4]; decide), f4, if_pos (by decide), Int.sub_emod, f4]
  decide
theorem s5 {n : Int} (h : -9223372036854775808 ≤ n ∧ n ≤ 9223372036854775807 := by decide) : Rep (small5 n) n := small5_ok h
theorem small5_len (n : Int) : toLen 5 (small5 n) = small5 n := toLen_toLen 5 _
def awakeTree : TT := .br (sbyte (BF (smallF 1)) 0 == 1)
  (.br ((BF (addF (small5 (-1)) (small5 2))).toList == (BF (smallF 1)).toList)
    (.br ((BF (mulF (toLen 5 (invF (small5 2))) (small5 2))).toList == (BF (smallF 1)).toList)
      (.br (hasF (small5 4)) (.br ((BF (rootF (small5 4))).toList == (BF (smallF 2)).toList) (.leaf (bool1 (!hasF (small5 2)))) no) no) no) no) no
theorem awakeTree_wp : awakeTree.wp (fun x => x = bool1 true) := by
  refine TT.br_t ?_ (TT.br_t (BFF (Rep.add (s5 (n := -1)) (s5 (n := 2))) (smallF_ok (n := 1) (by decide)) (by decide)) (TT.br_t (BFF (Rep.mul (Rep.toLen (inv_ok (s5 (n := 2)).pw)) (s5 (n := 2))) (smallF_ok (n := 1) (by decide)) ?_) (TT.br_t ?_ (TT.br_t (BFF (rootF_ok s5 (small5_len 4)) (smallF_ok (n := 2) (by decide)) ?_) ?_))))
  · rw [BF_ok (smallF_ok (n := 1) (by decide))]
    show (sbyte (strI (1 % pF)) ((0 : Nat) : Int) == 1) = true
    rw [strI_sbyte _ (by decide)]
    decide
  · exact inv2
  · rw [hasF_ok s5 (small5_len 4), hV4]
  · rw [rV4]; decide
  · show bool1 _ = bool1 true
    rw [hasF_ok s5 (small5_len 2), hV2]; rfl
def ctAwake : Ct := shCt 29 [] fun _ => ([], bool1 true)
set_option maxRecDepth 1000000 in
theorem ctAwake_ok : CtOk Try.prog ctAwake :=
  runCt_ok (cts := [ctSmallF, ctRootF, ctBytesF, ctAddF, ctInvF, ctMulF]) (lps := []) (fz := []) (fuel := 10) mix (allOk ⟨ctSmallF_ok, ctRootF_ok, ctBytesF_ok, ctAddF_ok, ctInvF_ok, ctMulF_ok, trivial⟩) Try.func29 (c := bodyOf Try.f29) (by kernel_rfl) (by kernel_rfl) (fun _ _ g hg => by cases hg) (fun _ => rfl) fun ds h _ => match ds, h with
    | [], h => ⟨_, viewArgs_is h, by
      have hr : runC Try.prog [ctSmallF, ctRootF, ctBytesF, ctAddF, ctInvF, ctMulF] [] [] 10 Try.f29 (bodyOf Try.f29) (viewArgs [] [] h) = awakeTree := by kernel_rfl
      rw [hr]
      exact awakeTree_wp⟩
end Go.Proofs.Ytkkekjkfafnahaa.Fd
