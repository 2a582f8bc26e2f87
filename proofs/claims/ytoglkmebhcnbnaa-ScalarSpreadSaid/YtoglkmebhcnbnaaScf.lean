/- The walk of the packages scalar and cressetref10: what the exported functions answer to any text; and the statements' own helpers. -/
import Derived.Test.YtoglkmebhcnbnaaScd
import Derived.Test.YtoglkmebhcnbnaaSce
noncomputable section
namespace Go.Proofs.Ytoglkmebhcnbnaa
open Go Go.RowKit RX
set_option linter.unusedSimpArgs false
def errB (b : Bool) : Int := bif b then 0 else 1
def strB (b : Bool) (s : ByteArray) : ByteArray := bif b then s else .empty
def textN (b : Bool) (s : ByteArray) : TV := .tup [.one (.str (strB b s)), .one (.int .i64 (errB b))]
def noText : TV := .tup [.one (.str .empty), .one (.int .i64 1)]
def someText (s : ByteArray) : TV := .tup [.one (.str s), .one (.int .i64 0)]
def wideP (s : ByteArray) : ByteArray := bytesN 32 (bytesP (restP (partsP s 8) 8))
def wideR (s : ByteArray) : ByteArray := bytesN 32 (bytesR (restR (digitsR s 32) 32))
def rightP (s : ByteArray) : Bool := missP (partsP s 4) orderP 4 == 1
def rightR (s : ByteArray) : Bool := lessR (digitsR s 16) orderR 16
def mulAddP (a b c : ByteArray) : ByteArray := bytesN 32 (bytesP (restP (mulP (partsP a 4) (partsP b 4) (partsP c 4)) 8))
def mulAddR (a b c : ByteArray) : ByteArray := bytesN 32 (bytesR (restR (mulR (digitsR a 16) (digitsR b 16) (digitsR c 16)) 32))
def has (n : Nat) (s : ByteArray) : Bool := decide (s.size = n)

theorem size_ne {s : ByteArray} {n : Nat} (h : ¬ s.size = n) : ((s.size : Int) != (n : Int)) = true := by simp; omega

def ctWideP : Ct := shCt 9 [.str] fun ds => ([], textN (has 64 (dS ds 0)) (wideP (dS ds 0)))
set_option maxRecDepth 1000000 in
theorem ctWideP_ok : CtOk Try.prog ctWideP :=
  runCt_ok (cts := [ctParts, ctRestP, ctBytesP]) (lps := []) (fz := []) (fuel := 70) mix (allOk ⟨ctParts_ok, ctRestP_ok, ctBytesP_ok, trivial⟩) Try.func9 (c := bodyOf Try.f9) (by kernel_rfl) (by kernel_rfl) (fun _ _ g hg => by cases hg) (fun _ => rfl) fun ds h _ => match ds, h with
    | [.S s], h => by
      by_cases hs : s.size = 64
      · refine ⟨[.one (.strn s 64 hs)], fun β vs r => viewArgs_is (shs := [.strn 64]) (ds := [.S s]) ⟨hs, trivial⟩ β vs r, ?_⟩
        have e : (textN (has 64 s) (wideP s)).norm = someText (wideP s) := by simp [textN, has, hs, strB, errB, someText, bool1, TV.norm, SV.norm, RC.norm]
        show TT.wp _ (fun x => x = (textN (has 64 s) (wideP s)).norm)
        rw [e]
        exact TT.one_wp (l := []) (by kernel_rfl) (by simp)
      · refine ⟨_, viewArgs_is h, ?_⟩
        have e : (textN (has 64 s) (wideP s)).norm = noText := by simp [textN, has, hs, strB, errB, noText, bool1, TV.norm, SV.norm, RC.norm]
        show TT.wp _ (fun x => x = (textN (has 64 s) (wideP s)).norm)
        rw [e]
        have hr : runC Try.prog [ctParts, ctRestP, ctBytesP] [] [] 70 Try.f9 (bodyOf Try.f9) (viewArgs [.str] [.S s] h) = .br ((s.size : Int) != 64) (.leaf noText) .stuck := by kernel_rfl
        rw [hr]
        exact ⟨fun _ => rfl, fun hb => by have := size_ne hs; simp_all⟩
def ctWideR : Ct := shCt 10 [.str] fun ds => ([], textN (has 64 (dS ds 0)) (wideR (dS ds 0)))
set_option maxRecDepth 1000000 in
theorem ctWideR_ok : CtOk Try.prog ctWideR :=
  runCt_ok (cts := [ctDigitsR 64 32, ctRestR, ctBytesR]) (lps := []) (fz := []) (fuel := 70) mix (allOk ⟨ctDigitsR64_ok, ctRestR_ok, ctBytesR_ok, trivial⟩) Try.func10 (c := bodyOf Try.f10) (by kernel_rfl) (by kernel_rfl) (fun _ _ g hg => by cases hg) (fun _ => rfl) fun ds h _ => match ds, h with
    | [.S s], h => by
      by_cases hs : s.size = 64
      · refine ⟨[.one (.strn s 64 hs)], fun β vs r => viewArgs_is (shs := [.strn 64]) (ds := [.S s]) ⟨hs, trivial⟩ β vs r, ?_⟩
        have e : (textN (has 64 s) (wideR s)).norm = someText (wideR s) := by simp [textN, has, hs, strB, errB, someText, bool1, TV.norm, SV.norm, RC.norm]
        show TT.wp _ (fun x => x = (textN (has 64 s) (wideR s)).norm)
        rw [e]
        exact TT.one_wp (l := []) (by kernel_rfl) (by simp)
      · refine ⟨_, viewArgs_is h, ?_⟩
        have e : (textN (has 64 s) (wideR s)).norm = noText := by simp [textN, has, hs, strB, errB, noText, bool1, TV.norm, SV.norm, RC.norm]
        show TT.wp _ (fun x => x = (textN (has 64 s) (wideR s)).norm)
        rw [e]
        have hr : runC Try.prog [ctDigitsR 64 32, ctRestR, ctBytesR] [] [] 70 Try.f10 (bodyOf Try.f10) (viewArgs [.str] [.S s] h) = .br ((s.size : Int) != 64) (.leaf noText) .stuck := by kernel_rfl
        rw [hr]
        exact ⟨fun _ => rfl, fun hb => by have := size_ne hs; simp_all⟩
def ctRightP : Ct := shCt 12 [.str] fun ds => ([], bool1 (has 32 (dS ds 0) && rightP (dS ds 0)))
set_option maxRecDepth 1000000 in
theorem ctRightP_ok : CtOk Try.prog ctRightP :=
  runCt_ok (cts := [ctParts, ctLessP, ctOrderP]) (lps := []) (fz := []) (fuel := 70) mix (allOk ⟨ctParts_ok, ctLessP_ok, ctOrderP_ok, trivial⟩) Try.func12 (c := bodyOf Try.f12) (by kernel_rfl) (by kernel_rfl) (fun _ _ g hg => by cases hg) (fun _ => rfl) fun ds h _ => match ds, h with
    | [.S s], h => by
      by_cases hs : s.size = 32
      · refine ⟨[.one (.strn s 32 hs)], fun β vs r => viewArgs_is (shs := [.strn 32]) (ds := [.S s]) ⟨hs, trivial⟩ β vs r, ?_⟩
        have e : (bool1 (has 32 s && rightP s)).norm = bool1 (rightP s) := by simp [textN, has, hs, strB, errB, someText, bool1, TV.norm, SV.norm, RC.norm]
        show TT.wp _ (fun x => x = (bool1 (has 32 s && rightP s)).norm)
        rw [e]
        exact TT.one_wp (l := []) (by kernel_rfl) (by simp)
      · refine ⟨_, viewArgs_is h, ?_⟩
        have e : (bool1 (has 32 s && rightP s)).norm = bool1 false := by simp [textN, has, hs, strB, errB, noText, bool1, TV.norm, SV.norm, RC.norm]
        show TT.wp _ (fun x => x = (bool1 (has 32 s && rightP s)).norm)
        rw [e]
        have hr : runC Try.prog [ctParts, ctLessP, ctOrderP] [] [] 70 Try.f12 (bodyOf Try.f12) (viewArgs [.str] [.S s] h) = .br ((s.size : Int) != 32) (.leaf (bool1 false)) .stuck := by kernel_rfl
        rw [hr]
        exact ⟨fun _ => rfl, fun hb => by have := size_ne hs; simp_all⟩
def ctRightR : Ct := shCt 13 [.str] fun ds => ([], bool1 (has 32 (dS ds 0) && rightR (dS ds 0)))
set_option maxRecDepth 1000000 in
theorem ctRightR_ok : CtOk Try.prog ctRightR :=
  runCt_ok (cts := [ctDigitsR 32 16, ctLessR, ctOrderR]) (lps := []) (fz := []) (fuel := 70) mix (allOk ⟨ctDigitsR32_ok, ctLessR_ok, ctOrderR_ok, trivial⟩) Try.func13 (c := bodyOf Try.f13) (by kernel_rfl) (by kernel_rfl) (fun _ _ g hg => by cases hg) (fun _ => rfl) fun ds h _ => match ds, h with
    | [.S s], h => by
      by_cases hs : s.size = 32
      · refine ⟨[.one (.strn s 32 hs)], fun β vs r => viewArgs_is (shs := [.strn 32]) (ds := [.S s]) ⟨hs, trivial⟩ β vs r, ?_⟩
        have e : (bool1 (has 32 s && rightR s)).norm = bool1 (rightR s) := by simp [textN, has, hs, strB, errB, someText, bool1, TV.norm, SV.norm, RC.norm]
        show TT.wp _ (fun x => x = (bool1 (has 32 s && rightR s)).norm)
        rw [e]
        exact TT.one_wp (l := []) (by kernel_rfl) (by simp)
      · refine ⟨_, viewArgs_is h, ?_⟩
        have e : (bool1 (has 32 s && rightR s)).norm = bool1 false := by simp [textN, has, hs, strB, errB, noText, bool1, TV.norm, SV.norm, RC.norm]
        show TT.wp _ (fun x => x = (bool1 (has 32 s && rightR s)).norm)
        rw [e]
        have hr : runC Try.prog [ctDigitsR 32 16, ctLessR, ctOrderR] [] [] 70 Try.f13 (bodyOf Try.f13) (viewArgs [.str] [.S s] h) = .br ((s.size : Int) == 32) .stuck (.leaf (bool1 false)) := by kernel_rfl
        rw [hr]
        exact ⟨fun hb => by have := size_ne hs; simp_all, fun _ => rfl⟩
def ctMulAddPS : Ct := shCt 14 [.str, .str, .str] fun ds => ([], textN (has 32 (dS ds 0) && has 32 (dS ds 1) && has 32 (dS ds 2)) (mulAddP (dS ds 0) (dS ds 1) (dS ds 2)))
set_option maxRecDepth 1000000 in
theorem ctMulAddPS_ok : CtOk Try.prog ctMulAddPS :=
  runCt_ok (cts := [ctMul64, ctAdd64, ctParts, ctRestP, ctBytesP]) (lps := []) (fz := []) (fuel := 40) mix (allOk ⟨ctMul64_ok, ctAdd64_ok, ctParts_ok, ctRestP_ok, ctBytesP_ok, trivial⟩) Try.func14 (c := bodyOf Try.f14) (by kernel_rfl) (by kernel_rfl) (fun _ _ g hg => by cases hg) (fun _ => rfl) fun ds h _ => match ds, h with
    | [.S a, .S b, .S c], h => by
      by_cases hs : a.size = 32 ∧ b.size = 32 ∧ c.size = 32
      · obtain ⟨ha, hb, hc⟩ := hs
        refine ⟨[.one (.strn a 32 ha), .one (.strn b 32 hb), .one (.strn c 32 hc)], fun β vs r => viewArgs_is (shs := [.strn 32, .strn 32, .strn 32]) (ds := [.S a, .S b, .S c]) ⟨ha, hb, hc, trivial⟩ β vs r, ?_⟩
        have e : (textN (has 32 a && has 32 b && has 32 c) (mulAddP a b c)).norm = someText (mulAddP a b c) := by simp [textN, has, ha, hb, hc, strB, errB, someText, TV.norm, SV.norm, RC.norm]
        show TT.wp _ (fun x => x = (textN (has 32 a && has 32 b && has 32 c) (mulAddP a b c)).norm)
        rw [e]
        exact TT.one_wp (l := []) (by kernel_rfl) (by simp)
      · refine ⟨_, viewArgs_is h, ?_⟩
        have hf : (has 32 a && has 32 b && has 32 c) = false := by
          simp only [has]
          simp
          intro h1 h2 h3
          exact hs ⟨h1, h2, h3⟩
        have e : (textN (has 32 a && has 32 b && has 32 c) (mulAddP a b c)).norm = noText := by simp [textN, hf, strB, errB, noText, TV.norm, SV.norm, RC.norm]
        show TT.wp _ (fun x => x = (textN (has 32 a && has 32 b && has 32 c) (mulAddP a b c)).norm)
        rw [e]
        have hr : runC Try.prog [ctMul64, ctAdd64, ctParts, ctRestP, ctBytesP] [] [] 40 Try.f14 (bodyOf Try.f14) (viewArgs [.str, .str, .str] [.S a, .S b, .S c] h) =
            .br ((a.size : Int) != 32) (.leaf noText) (.br ((b.size : Int) != 32) (.leaf noText) (.br ((c.size : Int) != 32) (.leaf noText) .stuck)) := by kernel_rfl
        rw [hr]
        refine ⟨fun _ => rfl, fun h1 => ⟨fun _ => rfl, fun h2 => ⟨fun _ => rfl, fun h3 => ?_⟩⟩⟩
        refine (hs ⟨?_, ?_, ?_⟩).elim
        · simp at h1; omega
        · simp at h2; omega
        · simp at h3; omega
def ctMulAddRS : Ct := shCt 15 [.str, .str, .str] fun ds => ([], textN (has 32 (dS ds 0) && has 32 (dS ds 1) && has 32 (dS ds 2)) (mulAddR (dS ds 0) (dS ds 1) (dS ds 2)))
set_option maxRecDepth 1000000 in
theorem ctMulAddRS_ok : CtOk Try.prog ctMulAddRS :=
  runCt_ok (cts := [ctDigitsR 32 16, ctRestR, ctBytesR]) (lps := []) (fz := [22]) (fuel := 40) mix (allOk ⟨ctDigitsR32_ok, ctRestR_ok, ctBytesR_ok, trivial⟩) Try.func15 (c := bodyOf Try.f15) (by kernel_rfl) (by kernel_rfl) (fun _ _ g hg => by cases hg) (fun _ => rfl) fun ds h _ => match ds, h with
    | [.S a, .S b, .S c], h => by
      by_cases hs : a.size = 32 ∧ b.size = 32 ∧ c.size = 32
      · obtain ⟨ha, hb, hc⟩ := hs
        refine ⟨[.one (.strn a 32 ha), .one (.strn b 32 hb), .one (.strn c 32 hc)], fun β vs r => viewArgs_is (shs := [.strn 32, .strn 32, .strn 32]) (ds := [.S a, .S b, .S c]) ⟨ha, hb, hc, trivial⟩ β vs r, ?_⟩
        have e : (textN (has 32 a && has 32 b && has 32 c) (mulAddR a b c)).norm = someText (mulAddR a b c) := by simp [textN, has, ha, hb, hc, strB, errB, someText, TV.norm, SV.norm, RC.norm]
        show TT.wp _ (fun x => x = (textN (has 32 a && has 32 b && has 32 c) (mulAddR a b c)).norm)
        rw [e]
        exact TT.one_wp (l := []) (by kernel_rfl) (by simp)
      · refine ⟨_, viewArgs_is h, ?_⟩
        have hf : (has 32 a && has 32 b && has 32 c) = false := by
          simp only [has]
          simp
          intro h1 h2 h3
          exact hs ⟨h1, h2, h3⟩
        have e : (textN (has 32 a && has 32 b && has 32 c) (mulAddR a b c)).norm = noText := by simp [textN, hf, strB, errB, noText, TV.norm, SV.norm, RC.norm]
        show TT.wp _ (fun x => x = (textN (has 32 a && has 32 b && has 32 c) (mulAddR a b c)).norm)
        rw [e]
        have hr : runC Try.prog [ctDigitsR 32 16, ctRestR, ctBytesR] [] [22] 40 Try.f15 (bodyOf Try.f15) (viewArgs [.str, .str, .str] [.S a, .S b, .S c] h) =
            .br ((a.size : Int) != 32) (.leaf noText) (.br ((b.size : Int) != 32) (.leaf noText) (.br ((c.size : Int) != 32) (.leaf noText) .stuck)) := by kernel_rfl
        rw [hr]
        refine ⟨fun _ => rfl, fun h1 => ⟨fun _ => rfl, fun h2 => ⟨fun _ => rfl, fun h3 => ?_⟩⟩⟩
        refine (hs ⟨?_, ?_, ?_⟩).elim
        · simp at h1; omega
        · simp at h2; omega
        · simp at h3; omega
def smallS (b : Int) : ByteArray := strOfNums [b] ++ strOfNums (List.replicate 31 0)
def ctSmall : Ct := shCt 16 [.num .u8] fun ds => ([], str1 (smallS (dI ds 0)))
theorem ctSmall_ok : CtOk Try.prog ctSmall :=
  oneCt_ok (cts := []) (fz := []) (fuel := 40) mix (by simp) Try.func16 (by kernel_rfl) (by kernel_rfl) (fun _ => rfl) fun ds h _ => match ds, h with
    | [.I _], h => ⟨_, viewArgs_is h, [], by kernel_rfl, by simp⟩
def longS (n : Int) : ByteArray := strOfNums ((List.range 8).map fun i => IntKind.u8.wrap (shrI .i64 n (8 * i))) ++ strOfNums (List.replicate 24 0)
def ctLong : Ct := shCt 17 [.num .i64] fun ds => ([], str1 (longS (dI ds 0)))
theorem ctLong_ok : CtOk Try.prog ctLong :=
  oneCt_ok (cts := []) (fz := []) (fuel := 40) mix (by simp) Try.func17 (by kernel_rfl) (by kernel_rfl) (fun _ => rfl) fun ds h _ => match ds, h with
    | [.I _], h => ⟨_, viewArgs_is h, [], by kernel_rfl, by simp⟩
def orderS : ByteArray := ⟨#[237, 211, 245, 92, 26, 99, 18, 88, 214, 156, 247, 162, 222, 249, 222, 20, 0, 0, 0, 0, 0, 0, 0, 0, 0, 0, 0, 0, 0, 0, 0, 16]⟩
def ctOrderS : Ct := shCt 24 [] fun _ => ([], str1 orderS)
theorem ctOrderS_ok : CtOk Try.prog ctOrderS :=
  oneCt_ok (cts := []) (fz := []) (fuel := 40) mix (by simp) Try.func24 (by kernel_rfl) (by kernel_rfl) (fun _ => rfl) fun ds h _ => match ds, h with
    | [], h => ⟨_, viewArgs_is h, [], by kernel_rfl, by simp⟩
end Go.Proofs.Ytoglkmebhcnbnaa
