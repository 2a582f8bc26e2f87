/- The walk of the statements of layer 10: what the exported functions answer to texts of the right size. -/
import Derived.Test.YtoglkmebhcnbnaaScg
import Derived.Test.YtoglkmebhcnbnaaSco
import Derived.Test.YtoglkmebhcnbnaaRxO
noncomputable section
namespace Go.Proofs.Ytoglkmebhcnbnaa
open Go Go.RowKit RX
set_option linter.unusedSimpArgs false
theorem smallS_size (b : Int) : (smallS b).size = 32 := by
  unfold smallS
  rw [ByteArray.size_append, strOfNums_size, strOfNums_size]
  simp
def ctSmallX : Ct := shCt 16 [.num .u8] fun ds => ([], .sv (.one (.strn (smallS (dI ds 0)) 32 (smallS_size _))))
theorem ctSmallX_ok : CtOk Try.prog ctSmallX := subCt ctSmall_ok rfl fun _ _ => ⟨rfl, rfl⟩
def ctWideX : Ct := shCt 9 [.strn 64] fun ds => ([], .tup [.one (.strn (wideP (dS ds 0)) 32 (bytesN_size 32 _)), .one (.lit .i64 0)])
theorem ctWideX_ok : CtOk Try.prog ctWideX := subCt ctWideP_ok rfl fun ds h => match ds, h with
  | [.S s], h => ⟨rfl, by
    have hs : s.size = 64 := h.1
    simp [textN, has, hs, strB, errB, dS, TV.norm, SV.norm, RC.norm]⟩
def ctRightX : Ct := shCt 12 [.strn 32] fun ds => ([], bool1 (rightP (dS ds 0)))
theorem ctRightX_ok : CtOk Try.prog ctRightX := subCt ctRightP_ok rfl fun ds h => match ds, h with
  | [.S s], h => ⟨rfl, by
    have hs : s.size = 32 := h.1
    simp [has, hs, dS]⟩
def ctMulAddX : Ct := shCt 14 [.strn 32, .strn 32, .strn 32] fun ds => ([], .tup [.one (.strn (mulAddP (dS ds 0) (dS ds 1) (dS ds 2)) 32 (bytesN_size 32 _)), .one (.lit .i64 0)])
theorem ctMulAddX_ok : CtOk Try.prog ctMulAddX := subCt ctMulAddPS_ok rfl fun ds h => match ds, h with
  | [.S a, .S b, .S c], h => ⟨rfl, by
    have ha : a.size = 32 := h.1
    have hb : b.size = 32 := h.2.1
    have hc : c.size = 32 := h.2.2.1
    simp [textN, has, ha, hb, hc, strB, errB, dS, TV.norm, SV.norm, RC.norm]⟩
def yes : TT := .leaf (bool1 true)
def no : TT := .leaf (bool1 false)
def all3 (a b c : ByteArray) : Bool := has 32 a && has 32 b && has 32 c
theorem yes_wp : yes.wp (fun x => x = bool1 true) := rfl

theorem wide_calls (s : ByteArray) (w : World) : Calls Try.prog 3 ⟨[.string s]⟩ w (RetT w noaway (bool1 true)) := by
  have hr : runC Try.prog [ctWideP, ctWideR, ctAwake] [] [] 10 Try.f3 (bodyOf Try.f3) [.one (.str s)] =
      .br ((strB (has 64 s) (wideP s)).toList == (strB (has 64 s) (wideR s)).toList) (.br (errB (has 64 s) == errB (has 64 s)) yes no) no := by kernel_rfl
  refine calls_of_runT (cts := [ctWideP, ctWideR, ctAwake]) (lps := []) (fz := []) (fuel := 10) mix (allOk ⟨ctWideP_ok, ctWideR_ok, ctAwake_ok, trivial⟩) Try.func3 (c := bodyOf Try.f3) (by kernel_rfl) (fun _ _ g hg => by cases hg) (args := [.one (.str s)]) rfl ?_ (fun k hk => hk.elim) ⟨rfl, trivial⟩
  rw [hr]
  exact TT.br_t (by rw [wideEq]; exact beq_self_eq_true _) (TT.br_t (beq_self_eq_true _) yes_wp)

theorem mulAdds_calls (a b c : ByteArray) (w : World) : Calls Try.prog 5 ⟨[.string a, .string b, .string c]⟩ w (RetT w noaway (bool1 true)) := by
  have hr : runC Try.prog [ctMulAddPS, ctMulAddRS, ctAwake] [] [] 10 Try.f5 (bodyOf Try.f5) [.one (.str a), .one (.str b), .one (.str c)] =
      .br ((strB (all3 a b c) (mulAddP a b c)).toList == (strB (all3 a b c) (mulAddR a b c)).toList) (.br (errB (all3 a b c) == errB (all3 a b c)) yes no) no := by kernel_rfl
  refine calls_of_runT (cts := [ctMulAddPS, ctMulAddRS, ctAwake]) (lps := []) (fz := []) (fuel := 10) mix (allOk ⟨ctMulAddPS_ok, ctMulAddRS_ok, ctAwake_ok, trivial⟩) Try.func5 (c := bodyOf Try.f5) (by kernel_rfl) (fun _ _ g hg => by cases hg) (args := [.one (.str a), .one (.str b), .one (.str c)]) rfl ?_ (fun k hk => hk.elim) ⟨rfl, rfl, rfl, trivial⟩
  rw [hr]
  exact TT.br_t (by rw [mulAddEq]; exact beq_self_eq_true _) (TT.br_t (beq_self_eq_true _) yes_wp)

/-! ### Numbers of 32 bytes -/
theorem ord_lt : ordL < 256 ^ 32 := by decide
theorem mod_range (N : Int) : 0 ≤ N % ordL ∧ N % ordL < ordL := ⟨Int.emod_nonneg _ (by decide), Int.emod_lt_of_pos _ (by decide)⟩
theorem mod_range' (N : Int) : 0 ≤ N % ordL ∧ N % ordL < 256 ^ 32 := ⟨(mod_range N).1, Int.lt_trans (mod_range N).2 ord_lt⟩
theorem rightP_eq (s : ByteArray) : rightP s = decide (valS s 32 < ordL) := by
  unfold rightP
  rw [missP_val (partsP_dig s 4) orderP_dig, orderP_val, partsP_val s 4 4 (Nat.le_refl 4)]
theorem valS_mod (N : Int) : valS (strI (N % ordL)) 32 = N % ordL := valS_strI (mod_range' N).1 (mod_range' N).2
theorem rightP_mod (N : Int) : rightP (strI (N % ordL)) = true := by
  rw [rightP_eq, valS_mod]
  exact decide_eq_true (mod_range N).2
theorem nums_byte {L : List Int} {i : Nat} (hi : i < L.length) (h : 0 ≤ L.getD i 0 ∧ L.getD i 0 ≤ 255) : sbyte (strOfNums L) i = L.getD i 0 := sbyte_strOfNums hi h
theorem zeros_byte (n i : Nat) (h : i < n) : sbyte (strOfNums (List.replicate n 0)) i = 0 := by
  have e : (List.replicate n (0 : Int)).getD i 0 = 0 := by simp [h]
  rw [sbyte_strOfNums (by simpa using h) (by rw [e]; decide), e]
theorem valS_small {b : Int} (h : 0 ≤ b ∧ b ≤ 255) : valS (smallS b) 32 = b := by
  have h1 : valS (smallS b) (1 + 31) = valS (smallS b) 1 := by
    refine valS_more _ 1 31 fun i h1 h2 => ?_
    unfold smallS
    rw [sbyte_append_right (by rw [strOfNums_size]; exact h1), strOfNums_size]
    exact zeros_byte 31 _ (by simp; omega)
  rw [show (32 : Nat) = 1 + 31 by rfl, h1, valS_succ]
  have h2 : sbyte (smallS b) (0 : Nat) = b := by
    unfold smallS
    rw [sbyte_append_left (i := 0) (by rw [strOfNums_size]; exact Nat.zero_lt_one), sbyte_strOfNums (xs := [b]) (i := 0) Nat.zero_lt_one h]
    rfl
  rw [h2]
  simp [valS, val]
theorem valS_small0 (a : ByteArray) (h : a.size = 32) : valS (a ++ smallS 0) 64 = valS a 32 := by
  have h1 : valS (a ++ smallS 0) (32 + 32) = valS (a ++ smallS 0) 32 := by
    refine valS_more _ 32 32 fun i h1 h2 => ?_
    rw [sbyte_append_right (by omega)]
    have : 0 ≤ (0 : Int) := by decide
    have hb := valS_byte (smallS 0) (n := 32) (i := i - a.size) (by omega)
    rw [valS_small ⟨by decide, by decide⟩] at hb
    rw [← hb]
    simp
  rw [show (64 : Nat) = 32 + 32 by rfl, h1, valS_append _ _ (by omega)]

theorem mulAdd_mod (A B C : Int) : (A % ordL * B + C) % ordL = (A * B + C) % ordL := by rw [Int.add_emod, Int.mul_emod, Int.emod_emod, ← Int.mul_emod, ← Int.add_emod]
theorem mulAdd_mod2 (A B C : Int) : (A * (B % ordL) + C) % ordL = (A * B + C) % ordL := by rw [Int.add_emod, Int.mul_emod, Int.emod_emod, ← Int.mul_emod, ← Int.add_emod]
theorem mulAdd_mod3 (A B C : Int) : (A * B + C % ordL) % ordL = (A * B + C) % ordL := by rw [Int.add_emod, Int.emod_emod, ← Int.add_emod]
theorem lawRight (a b c : ByteArray) : rightP (mulAddP a b c) = true := by rw [mulAddP_eq]; exact rightP_mod _
theorem lawSwap (a b c : ByteArray) : mulAddP a b c = mulAddP b a c := by rw [mulAddP_eq, mulAddP_eq, Int.mul_comm]
theorem lawOnce (a b c : ByteArray) : mulAddP (smallS 1) (mulAddP a b c) (smallS 0) = mulAddP a b c := by
  rw [mulAddP_eq (smallS 1), mulAddP_eq a b c, valS_small ⟨by decide, by decide⟩, valS_small ⟨by decide, by decide⟩, valS_mod, Int.one_mul, Int.add_zero, Int.emod_emod]
theorem lawWide (a : ByteArray) (h : a.size = 32) : wideP (a ++ smallS 0) = mulAddP a (smallS 1) (smallS 0) := by
  rw [wideP_eq, mulAddP_eq, valS_small0 a h, valS_small ⟨by decide, by decide⟩, valS_small ⟨by decide, by decide⟩, Int.mul_one, Int.add_zero]
theorem lawStays (a : ByteArray) (h : a.size = 32) : (rightP a == ((wideP (a ++ smallS 0)).toList == a.toList)) = true := by
  rw [rightP_eq, toList_beq, wideP_eq, valS_small0 a h]
  have h0 := (valS_range a 32).1
  have h1 := (valS_range a 32).2
  have key : strI (valS a 32 % ordL) = a ↔ valS a 32 < ordL := by
    constructor
    · intro e
      have : valS (strI (valS a 32 % ordL)) 32 = valS a 32 := by rw [e]
      rw [valS_mod] at this
      have := (mod_range (valS a 32)).2
      omega
    · intro hlt
      rw [Int.emod_eq_of_lt h0 hlt, strI_valS a h]
  by_cases hlt : valS a 32 < ordL
  · rw [decide_eq_true hlt, decide_eq_true (key.2 hlt)]; rfl
  · rw [decide_eq_false hlt, decide_eq_false (fun e => hlt (key.1 e))]; rfl
theorem lawSpread (a b c : ByteArray) : mulAddP a (mulAddP b (smallS 1) c) (smallS 0) = mulAddP a b (mulAddP a c (smallS 0)) := by
  rw [mulAddP_eq a, mulAddP_eq b, mulAddP_eq a b, mulAddP_eq a c, valS_mod, valS_mod, mulAdd_mod2, mulAdd_mod3, valS_small ⟨by decide, by decide⟩, valS_small ⟨by decide, by decide⟩]
  congr 2
  grind

theorem size_ne32 {s : ByteArray} (h : ¬ s.size = 32) : ((s.size : Int) != 32) = true := size_ne h
theorem laws_calls (a b c : ByteArray) (w : World) : Calls Try.prog 6 ⟨[.string a, .string b, .string c]⟩ w (RetT w noaway (bool1 true)) := by
  by_cases hs : a.size = 32 ∧ b.size = 32 ∧ c.size = 32
  · obtain ⟨ha, hb, hc⟩ := hs
    have hr : runC Try.prog [ctMulAddX, ctWideX, ctRightX, ctSmallX, ctAwake] [] [] 10 Try.f6 (bodyOf Try.f6) [.one (.strn a 32 ha), .one (.strn b 32 hb), .one (.strn c 32 hc)] =
        .br (!rightP (mulAddP a b c)) no (.br (!((mulAddP a b c).toList == (mulAddP b a c).toList)) no (.br (!((mulAddP (smallS 1) (mulAddP a b c) (smallS 0)).toList == (mulAddP a b c).toList)) no
          (.br (!((wideP (a ++ smallS 0)).toList == (mulAddP a (smallS 1) (smallS 0)).toList)) no (.br (!rightP (wideP (a ++ smallS 0))) no (.br (rightP a == ((wideP (a ++ smallS 0)).toList == a.toList)) yes no))))) := by kernel_rfl
    refine calls_of_runT (cts := [ctMulAddX, ctWideX, ctRightX, ctSmallX, ctAwake]) (lps := []) (fz := []) (fuel := 10) mix (allOk ⟨ctMulAddX_ok, ctWideX_ok, ctRightX_ok, ctSmallX_ok, ctAwake_ok, trivial⟩) Try.func6 (c := bodyOf Try.f6) (by kernel_rfl) (fun _ _ g hg => by cases hg) (args := [.one (.strn a 32 ha), .one (.strn b 32 hb), .one (.strn c 32 hc)]) rfl ?_ (fun k hk => hk.elim) ⟨rfl, rfl, rfl, trivial⟩
    rw [hr]
    refine TT.br_f (by rw [lawRight]; rfl) (TT.br_f (by rw [lawSwap a b c, beq_self_eq_true]; rfl) (TT.br_f (by rw [lawOnce, beq_self_eq_true]; rfl) (TT.br_f (by rw [lawWide a ha, beq_self_eq_true]; rfl) (TT.br_f ?_ (TT.br_t (lawStays a ha) yes_wp)))))
    rw [lawWide a ha, lawRight]; rfl
  · have hr : runC Try.prog [ctAwake] [] [] 10 Try.f6 (bodyOf Try.f6) [.one (.str a), .one (.str b), .one (.str c)] =
        .br ((a.size : Int) != 32) yes (.br ((b.size : Int) != 32) yes (.br ((c.size : Int) != 32) yes .stuck)) := by kernel_rfl
    refine calls_of_runT (cts := [ctAwake]) (lps := []) (fz := []) (fuel := 10) mix (allOk ⟨ctAwake_ok, trivial⟩) Try.func6 (c := bodyOf Try.f6) (by kernel_rfl) (fun _ _ g hg => by cases hg) (args := [.one (.str a), .one (.str b), .one (.str c)]) rfl ?_ (fun k hk => hk.elim) ⟨rfl, rfl, rfl, trivial⟩
    rw [hr]
    refine TT.br_e (fun _ => yes_wp) fun h1 => TT.br_e (fun _ => yes_wp) fun h2 => TT.br_e (fun _ => yes_wp) fun h3 => (hs ⟨?_, ?_, ?_⟩).elim
    · simp at h1; omega
    · simp at h2; omega
    · simp at h3; omega
theorem spread_calls (a b c : ByteArray) (w : World) : Calls Try.prog 7 ⟨[.string a, .string b, .string c]⟩ w (RetT w noaway (bool1 true)) := by
  by_cases hs : a.size = 32 ∧ b.size = 32 ∧ c.size = 32
  · obtain ⟨ha, hb, hc⟩ := hs
    have hr : runC Try.prog [ctMulAddX, ctSmallX, ctAwake] [] [] 10 Try.f7 (bodyOf Try.f7) [.one (.strn a 32 ha), .one (.strn b 32 hb), .one (.strn c 32 hc)] =
        .br ((mulAddP a (mulAddP b (smallS 1) c) (smallS 0)).toList == (mulAddP a b (mulAddP a c (smallS 0))).toList) yes no := by kernel_rfl
    refine calls_of_runT (cts := [ctMulAddX, ctSmallX, ctAwake]) (lps := []) (fz := []) (fuel := 10) mix (allOk ⟨ctMulAddX_ok, ctSmallX_ok, ctAwake_ok, trivial⟩) Try.func7 (c := bodyOf Try.f7) (by kernel_rfl) (fun _ _ g hg => by cases hg) (args := [.one (.strn a 32 ha), .one (.strn b 32 hb), .one (.strn c 32 hc)]) rfl ?_ (fun k hk => hk.elim) ⟨rfl, rfl, rfl, trivial⟩
    rw [hr]
    exact TT.br_t (by rw [lawSpread]; exact beq_self_eq_true _) yes_wp
  · have hr : runC Try.prog [ctAwake] [] [] 10 Try.f7 (bodyOf Try.f7) [.one (.str a), .one (.str b), .one (.str c)] =
        .br ((a.size : Int) != 32) yes (.br ((b.size : Int) != 32) yes (.br ((c.size : Int) != 32) yes .stuck)) := by kernel_rfl
    refine calls_of_runT (cts := [ctAwake]) (lps := []) (fz := []) (fuel := 10) mix (allOk ⟨ctAwake_ok, trivial⟩) Try.func7 (c := bodyOf Try.f7) (by kernel_rfl) (fun _ _ g hg => by cases hg) (args := [.one (.str a), .one (.str b), .one (.str c)]) rfl ?_ (fun k hk => hk.elim) ⟨rfl, rfl, rfl, trivial⟩
    rw [hr]
    refine TT.br_e (fun _ => yes_wp) fun h1 => TT.br_e (fun _ => yes_wp) fun h2 => TT.br_e (fun _ => yes_wp) fun h3 => (hs ⟨?_, ?_, ?_⟩).elim
    · simp at h1; omega
    · simp at h2; omega
    · simp at h3; omega

/-! ### Small numbers -/
theorem longS_size (n : Int) : (longS n).size = 32 := by
  unfold longS
  rw [ByteArray.size_append, strOfNums_size, strOfNums_size]
  simp
def ctLongX : Ct := shCt 17 [.num .i64] fun ds => ([], .sv (.one (.strn (longS (dI ds 0)) 32 (longS_size _))))
theorem ctLongX_ok : CtOk Try.prog ctLongX := subCt ctLong_ok rfl fun _ _ => ⟨rfl, rfl⟩
theorem longS_eq {n : Int} (h0 : 0 ≤ n) (h1 : n < 18446744073709551616) : longS n = strI n := by
  refine str_ext (by rw [longS_size, strI_size]) fun i hi => ?_
  rw [longS_size] at hi
  rw [strI_sbyte n hi]
  unfold longS
  by_cases h8 : i < 8
  · have e : ((List.range 8).map fun i => IntKind.u8.wrap (shrI .i64 n (8 * i))).getD i 0 = n / 256 ^ i % 256 := by
      rw [getD_map_range h8, IntKind.wrap_u8, shrI_eq _ _ (show 8 * i ≤ 64 by omega), show (2 : Int) ^ (8 * i) = 256 ^ i by rw [Int.pow_mul]; rfl]
    rw [sbyte_append_left (by rw [strOfNums_size]; simpa using h8), sbyte_strOfNums (by simpa using h8) (by rw [e]; omega), e]
  · rw [sbyte_append_right (by rw [strOfNums_size]; simp; omega), zeros_byte 24 _ (by rw [strOfNums_size]; simp; omega)]
    obtain ⟨d, rfl⟩ : ∃ d, i = 8 + d := ⟨i - 8, by omega⟩
    have e8 : (256 : Int) ^ 8 = 18446744073709551616 := by decide
    have hp : (0 : Int) < 256 ^ d := Int.pow_pos (by decide)
    rw [Int.pow_add, e8, ← Int.ediv_ediv_of_nonneg (by decide), Int.ediv_eq_zero_of_lt h0 h1, Int.zero_ediv]
    rfl
theorem small_calls (x y z : Int) (w : World) : Calls Try.prog 8 ⟨[.int .i64 x, .int .i64 y, .int .i64 z]⟩ w (RetT w noaway (bool1 true)) := by
  have hr : runC Try.prog [ctMulAddX, ctLongX, ctAwake] [] [] 10 Try.f8 (bodyOf Try.f8) [.one (.int .i64 x), .one (.int .i64 y), .one (.int .i64 z)] =
      .br (decide (x < 0)) yes (.br (decide (y < 0)) yes (.br (decide (z < 0)) yes (.br (decide (x > 1073741824)) yes (.br (decide (y > 1073741824)) yes (.br (decide (z > 1073741824)) yes
        (.br ((mulAddP (longS x) (longS y) (longS z)).toList == (longS (IntKind.i64.wrap (IntKind.i64.wrap (x * y) + z))).toList) yes no)))))) := by kernel_rfl
  refine calls_of_runT (cts := [ctMulAddX, ctLongX, ctAwake]) (lps := []) (fz := []) (fuel := 10) mix (allOk ⟨ctMulAddX_ok, ctLongX_ok, ctAwake_ok, trivial⟩) Try.func8 (c := bodyOf Try.f8) (by kernel_rfl) (fun _ _ g hg => by cases hg) (args := [.one (.int .i64 x), .one (.int .i64 y), .one (.int .i64 z)]) rfl ?_ (fun k hk => hk.elim) ⟨rfl, rfl, rfl, trivial⟩
  rw [hr]
  refine TT.br_e (fun _ => yes_wp) fun h1 => TT.br_e (fun _ => yes_wp) fun h2 => TT.br_e (fun _ => yes_wp) fun h3 => TT.br_e (fun _ => yes_wp) fun h4 => TT.br_e (fun _ => yes_wp) fun h5 => TT.br_e (fun _ => yes_wp) fun h6 => TT.br_t ?_ yes_wp
  have g1 := of_decide_eq_false h1
  have g2 := of_decide_eq_false h2
  have g3 := of_decide_eq_false h3
  have g4 := of_decide_eq_false h4
  have g5 := of_decide_eq_false h5
  have g6 := of_decide_eq_false h6
  have hm := mul_le (a := x) (b := y) (A := 1073741824) (B := 1073741824) (by omega) (by omega) (by omega) (by omega)
  have e1 : mulAddP (longS x) (longS y) (longS z) = strI (x * y + z) := by
    rw [mulAddP_eq, longS_eq (by omega) (by omega), longS_eq (by omega) (by omega), longS_eq (by omega) (by omega)]
    have e32 : (256 : Int) ^ 32 = 115792089237316195423570985008687907853269984665640564039457584007913129639936 := by decide
    rw [valS_strI (by omega) (by rw [e32]; omega), valS_strI (by omega) (by rw [e32]; omega), valS_strI (by omega) (by rw [e32]; omega), Int.emod_eq_of_lt (by omega) (by unfold ordL; omega)]
  have e2 : IntKind.i64.wrap (IntKind.i64.wrap (x * y) + z) = x * y + z := by
    rw [IntWalk.i64_in (x * y) (by omega), IntWalk.i64_in _ (by omega)]
  rw [e1, e2, longS_eq (by omega) (by omega)]
  exact beq_self_eq_true _
end Go.Proofs.Ytoglkmebhcnbnaa
