/- The walk of the statements of layer 8 without the document's answer: laws, squares, once. -/
import Derived.Test.YtkkekjkfafnahaaLda
noncomputable section
namespace Go.Proofs.Ytkkekjkfafnahaa.Fd
open Go Go.RowKit RX
set_option linter.unusedSimpArgs false

def tAnd (b c : Bool) : TT := .br b (.br c (.need (b = true) (.need (c = true) yes)) (.need (b = true) (.need (c = false) no))) (.need (b = false) no)
theorem tAnd_wp {b c : Bool} (hb : b = true) (hc : c = true) : (tAnd b c).wp (fun x => x = bool1 true) := by
  subst hb; subst hc
  exact ⟨fun _ => ⟨fun _ => ⟨rfl, rfl, rfl⟩, fun h => (by cases h)⟩, fun h => (by cases h)⟩
def tOr2 (b c : Bool) (t : TT) : TT := .br b (.need (b = true) no) (.need (b = false) (.br c no t))
theorem tOr2_wp {b c : Bool} {t : TT} (hb : b = false) (hc : c = false) (h : t.wp (fun x => x = bool1 true)) : (tOr2 b c t).wp (fun x => x = bool1 true) := by
  subst hb; subst hc
  exact ⟨fun h => (by cases h), fun _ => ⟨rfl, ⟨fun h => (by cases h), fun _ => h⟩⟩⟩
def tOr4 (b c d e : Bool) (t : TT) : TT := .br b (.need (b = true) no) (.br c (.need (b = false) (.need (c = true) no)) (.br d (.need (b = false) (.need (c = false) (.need (d = true) no))) (.need (b = false) (.need (c = false) (.need (d = false) (.br e no t))))))
theorem tOr4_wp {b c d e : Bool} {t : TT} (hb : b = false) (hc : c = false) (hd : d = false) (he : e = false) (h : t.wp (fun x => x = bool1 true)) : (tOr4 b c d e t).wp (fun x => x = bool1 true) := by
  subst hb; subst hc; subst hd; subst he
  exact ⟨fun h => (by cases h), fun _ => ⟨fun h => (by cases h), fun _ => ⟨fun h => (by cases h), fun _ => ⟨rfl, rfl, rfl, ⟨fun h => (by cases h), fun _ => h⟩⟩⟩⟩⟩

set_option maxRecDepth 1000000 in
theorem laws_calls (a b c : ByteArray) (w : World) : Calls Try.prog 9 ⟨[.string a, .string b, .string c]⟩ w (RetT w noaway (bool1 true)) := by
  by_cases hs : a.size = 32 ∧ b.size = 32 ∧ c.size = 32
  · obtain ⟨ha, hb, hc⟩ := hs
    have hr : runC Try.prog [ctOf, ctBytesF, ctAddF, ctSubF, ctMulF, ctSmallF, ctAwake] [] [] 10 Try.f9 (bodyOf Try.f9) [.one (.strn a 32 ha), .one (.strn b 32 hb), .one (.strn c 32 hc)] =
        tOr4 (!((BF (addF (fs a) (fs b))).toList == (BF (addF (fs b) (fs a))).toList)) (!((BF (mulF (fs a) (fs b))).toList == (BF (mulF (fs b) (fs a))).toList)) (!((BF (mulF (fs a) (A5 (fs b) (fs c)))).toList == (BF (addF (M5 (fs a) (fs b)) (M5 (fs a) (fs c)))).toList)) (!((BF (mulF (M5 (fs a) (fs b)) (fs c))).toList == (BF (mulF (fs a) (M5 (fs b) (fs c)))).toList)) (tOr2 (!((BF (subF (A5 (fs a) (fs b)) (fs b))).toList == (BF (ofF a)).toList)) (!((BF (subF (fs a) (fs a))).toList == (BF (smallF 0)).toList)) (tAnd ((BF (mulF (fs a) (small5 1))).toList == (BF (ofF a)).toList) ((BF (mulF (fs a) (small5 0))).toList == (BF (smallF 0)).toList))) := by kernel_rfl
    refine calls_of_runT (cts := [ctOf, ctBytesF, ctAddF, ctSubF, ctMulF, ctSmallF, ctAwake]) (lps := []) (fz := []) (fuel := 10) mix (allOk ⟨ctOf_ok, ctBytesF_ok, ctAddF_ok, ctSubF_ok, ctMulF_ok, ctSmallF_ok, ctAwake_ok, trivial⟩) Try.func9 (c := bodyOf Try.f9) (by kernel_rfl) (fun _ _ g hg => by cases hg) (args := [.one (.strn a 32 ha), .one (.strn b 32 hb), .one (.strn c 32 hc)]) rfl ?_ (fun k hk => hk.elim) ⟨rfl, rfl, rfl, trivial⟩
    rw [hr]
    have A := fs_ok a
    have B := fs_ok b
    have C := fs_ok c
    have e (x y : Int) (h : x = y) : x % pF = y % pF := by rw [h]
    exact tOr4_wp (BFFn (A.add B) (B.add A) (e _ _ (Int.add_comm _ _))) (BFFn (A.mul B) (B.mul A) (e _ _ (Int.mul_comm _ _))) (BFFn (A.mul (B.A5 C)) ((A.M5 B).add (A.M5 C)) (e _ _ (Int.mul_add _ _ _))) (BFFn ((A.M5 B).mul C) (A.mul (B.M5 C)) (e _ _ (Int.mul_assoc _ _ _)))
      (tOr2_wp (BFFn ((A.A5 B).sub B) (ofF_ok a) (e _ _ (by omega))) (BFFn (A.sub A) (smallF_ok (n := 0) (by decide)) (e _ _ (by omega))) (tAnd_wp (BFF (A.mul (s5 (n := 1))) (ofF_ok a) (e _ _ (by omega))) (BFF (A.mul (s5 (n := 0))) (smallF_ok (n := 0) (by decide)) (e _ _ (by omega)))))
  · have hr : runC Try.prog [ctOfG, ctAwake] [] [] 10 Try.f9 (bodyOf Try.f9) [.one (.str a), .one (.str b), .one (.str c)] =
        (.br (errB (has 32 a) != 0) (.br ((a.size : Int) != 32) yes (.br ((b.size : Int) != 32) yes (.br ((c.size : Int) != 32) yes no))) (.br (errB (has 32 b) != 0) (.br ((a.size : Int) != 32) yes (.br ((b.size : Int) != 32) yes (.br ((c.size : Int) != 32) yes no))) (.br (errB (has 32 c) != 0) (.br ((a.size : Int) != 32) yes (.br ((b.size : Int) != 32) yes (.br ((c.size : Int) != 32) yes no))) .stuck))) := by kernel_rfl
    refine calls_of_runT (cts := [ctOfG, ctAwake]) (lps := []) (fz := []) (fuel := 10) mix (allOk ⟨ctOfG_ok, ctAwake_ok, trivial⟩) Try.func9 (c := bodyOf Try.f9) (by kernel_rfl) (fun _ _ g hg => by cases hg) (args := [.one (.str a), .one (.str b), .one (.str c)]) rfl ?_ (fun k hk => hk.elim) ⟨rfl, rfl, rfl, trivial⟩
    rw [hr]
    exact fieldErr3 hs

theorem rV_no {x : Int} (h : hV x = false) : rV x = 0 := by
  unfold rV
  rw [if_neg (of_decide_eq_false h)]
theorem rV_yes {x : Int} (h : hV x = true) : rV x = if fV x % pF % 2 = 1 then 0 - fV x else fV x := by
  unfold rV
  rw [if_pos (of_decide_eq_true h)]
theorem rV_sq {x : Int} (h : hV x = true) : rV x * rV x % pF = x % pF := by
  rw [rV_yes h]
  have h1 : fV x * fV x % pF = x % pF := of_decide_eq_true h
  split
  · rw [show (0 - fV x) * (0 - fV x) = fV x * fV x by grind]; exact h1
  · exact h1
theorem rV_even (x : Int) : rV x % pF % 2 = 0 := by
  cases h : hV x
  · rw [rV_no h]; decide
  · rw [rV_yes h]
    have h0 := Int.emod_nonneg (fV x) (show pF ≠ 0 by decide)
    have h1 := Int.emod_lt_of_pos (fV x) (show 0 < pF by decide)
    split
    · rename_i g
      have e : (0 - fV x) % pF = pF - fV x % pF := by
        have h2 := Int.emod_add_mul_ediv (fV x) pF
        have e1 : 0 - fV x = (pF - fV x % pF) + pF * (-1 - fV x / pF) := by rw [Int.mul_sub]; omega
        rw [e1, Int.add_mul_emod_self_left, Int.emod_eq_of_lt (by omega) (by omega)]
      rw [e]
      have hp : pF % 2 = 1 := by decide
      omega
    · omega
set_option maxRecDepth 1000000 in
theorem squares_calls (a : ByteArray) (w : World) : Calls Try.prog 10 ⟨[.string a]⟩ w (RetT w noaway (bool1 true)) := by
  by_cases hs : a.size = 32
  · have ha := hs
    have hr : runC Try.prog [ctOf, ctBytesF, ctRootF, ctMulF, ctSmallF, ctAwake] [] [] 10 Try.f10 (bodyOf Try.f10) [.one (.strn a 32 ha)] =
        .br (!hasF (fs a)) (.br ((BF (rootF (fs a))).toList == (BF (smallF 0)).toList) yes no) (tAnd ((sbyte (BF (rootF (fs a))) 0).tmod 2 == 0) ((BF (mulF (toLen 5 (rootF (fs a))) (toLen 5 (rootF (fs a))))).toList == (BF (ofF a)).toList)) := by kernel_rfl
    refine calls_of_runT (cts := [ctOf, ctBytesF, ctRootF, ctMulF, ctSmallF, ctAwake]) (lps := []) (fz := []) (fuel := 10) mix (allOk ⟨ctOf_ok, ctBytesF_ok, ctRootF_ok, ctMulF_ok, ctSmallF_ok, ctAwake_ok, trivial⟩) Try.func10 (c := bodyOf Try.f10) (by kernel_rfl) (fun _ _ g hg => by cases hg) (args := [.one (.strn a 32 ha)]) rfl ?_ (fun k hk => hk.elim) ⟨rfl, trivial⟩
    rw [hr]
    have A := fs_ok a
    have R := rootF_ok A (fs_len a)
    rw [hasF_ok A (fs_len a)]
    refine TT.br_e (fun h => TT.br_t (BFF R (smallF_ok (n := 0) (by decide)) ?_) yes_wp) fun h => tAnd_wp ?_ (BFF (R.toLen.mul R.toLen) (ofF_ok a) ?_)
    · rw [rV_no (by simpa using h)]
    · rw [BF_ok R]
      show ((sbyte (strI (rV (valS a 32) % pF)) ((0 : Nat) : Int)).tmod 2 == 0) = true
      rw [strI_sbyte _ (by decide)]
      have e := rV_even (valS a 32)
      have h0 := (mod_p (rV (valS a 32))).1
      rw [Int.pow_zero, Int.ediv_one, Int.tmod_eq_emod_of_nonneg (by omega), Int.emod_emod_of_dvd _ (by decide), e]
      rfl
    · exact rV_sq (by simpa using h)
  · have hr : runC Try.prog [ctOfG, ctAwake] [] [] 10 Try.f10 (bodyOf Try.f10) [.one (.str a)] =
        (.br (errB (has 32 a) != 0) (.br ((a.size : Int) != 32) yes no) .stuck) := by kernel_rfl
    refine calls_of_runT (cts := [ctOfG, ctAwake]) (lps := []) (fz := []) (fuel := 10) mix (allOk ⟨ctOfG_ok, ctAwake_ok, trivial⟩) Try.func10 (c := bodyOf Try.f10) (by kernel_rfl) (fun _ _ g hg => by cases hg) (args := [.one (.str a)]) rfl ?_ (fun k hk => hk.elim) ⟨rfl, trivial⟩
    rw [hr]
    exact fieldErr1 hs

end Go.Proofs.Ytkkekjkfafnahaa.Fd
