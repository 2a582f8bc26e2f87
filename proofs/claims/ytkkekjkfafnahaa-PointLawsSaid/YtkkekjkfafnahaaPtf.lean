/- The point of any text, on both sides: contracts, and the numbers that both hold. -/
import Derived.Test.YtkkekjkfafnahaaPte
import Derived.Test.YtkkekjkfafnahaaLdf
noncomputable section
namespace Go.Proofs.Ytkkekjkfafnahaa.Fd
open Go Go.RowKit RX
set_option linter.unusedSimpArgs false
set_option maxRecDepth 1000000
/-! ### The plain law: what stands in the point of 32 bytes -/
section
variable (s : ByteArray)
def yV : Int := valS (maskS s) 32
def wV : Int := (yV s * yV s - 1) * (factorV * (yV s * yV s) + 1) ^ (2 ^ 255 - 21)
def oddV : Bool := oddP s
def xV : Int := if oddP s = true then 0 - rV (wV s) else rV (wV s)
def ptV : PV := ⟨xV s, yV s, 1, xV s * yV s⟩
def badP : Bool := noByP s || (noRtP s || (oddP s && xzP s))
def badQ : Bool := noByQ s || (noRtQ s || (oddQ s && xzQ s))
end
theorem wP_ok (s : ByteArray) : Rep (wP s) (wV s) := by
  have y := uL_ok s
  have yy := y.M5 y
  exact (yy.S5 one5_ok).M5 (Rep.toLen (inv_ok (((factorP_ok.M5 yy).A5 one5_ok).pw)))
theorem wQ_ok {s : ByteArray} (hs : s.size = 32) : Rep16 (wQ s) (wV s) := by
  have y := uR_ok hs
  have yy := y.toLen.mul y.toLen
  have o := smallR_ok (n := 1) (by decide)
  exact (yy.toLen.sub o.toLen).toLen.mul (Rep16.toLen (invR_ok ((factorR_ok.toLen.mul yy.toLen).toLen.add o.toLen).toLen))
theorem xP_ok (s : ByteArray) : Rep (xP s) (rV (wV s)) := (rootF_ok (wP_ok s).toLen (toLen_toLen 5 _)).toLen
theorem xQ_ok {s : ByteArray} (hs : s.size = 32) : Rep16 (xQ s) (rV (wV s)) := rootR_ok (wQ_ok hs).toLen
theorem noBy_eq {s : ByteArray} (hs : s.size = 32) : noByQ s = noByP s := by
  have h1 : BF (ofF (maskS s)) = strI (yV s % pF) := BF_ok (ofF_ok _)
  have h2 : BR (uR s) = strI (yV s % pF) := BR_ok (uR_ok hs)
  unfold noByQ noByP
  rw [h1, h2, mask_eq hs]
theorem noRt_eq {s : ByteArray} (hs : s.size = 32) : noRtQ s = noRtP s := by
  unfold noRtQ noRtP
  rw [hasF_ok (wP_ok s).toLen (toLen_toLen 5 _)]
  exact congrArg (!·) (hasR_ok (wQ_ok hs).toLen)
theorem odd_eq (s : ByteArray) : oddQ s = oddP s := by
  have h := sbyte_le s 31
  have key : ∀ n : Fin 256, decide (((n : Nat) : Int) ≥ 128) = (shrI .u8 ((n : Nat) : Int) 7 == 1) := by decide +kernel
  have e := key ⟨(sbyte s 31).toNat, by omega⟩
  simp only [Int.toNat_of_nonneg h.1] at e
  exact e
theorem xz_eq {s : ByteArray} (hs : s.size = 32) : xzQ s = xzP s := by
  have h1 : xzQ s = decide (rV (wV s) % pF = 0 % pF) := same_ok (xQ_ok hs) (zeroR_ok)
  have h2 : xzP s = decide (rV (wV s) % pF = 0 % pF) := by
    unfold xzP
    have e := Rep.inj (xP_ok s) zeroF_can
    rw [show RX.toLen 5 (xP s) = xP s from toLen_toLen 5 _, show RX.toLen 5 zeroF = zeroF from rfl] at e
    rw [Bool.eq_iff_iff, beq_iff_eq, decide_eq_true_eq]
    exact e
  rw [h1, h2]
theorem bad_eq {s : ByteArray} (hs : s.size = 32) : badQ s = badP s := by
  unfold badQ badP
  rw [noBy_eq hs, noRt_eq hs, odd_eq, xz_eq hs]
theorem xxP_ok (s : ByteArray) : Rep (xxP s) (xV s) := by
  have hx := xP_ok s
  unfold xxP xV
  cases c : oddP s
  · rw [if_neg (by simp)]
    exact hx.toLen
  · rw [if_pos rfl]
    exact (zeroF_can.sub hx).toLen
theorem xxQ_ok {s : ByteArray} (hs : s.size = 32) : Rep16 (xxQ s) (xV s) := by
  have hx := xQ_ok hs
  unfold xxQ xV
  rw [odd_eq]
  cases c : oddP s
  · rw [if_neg (by simp), cond_false]
    exact hx
  · rw [if_pos rfl, cond_true]
    exact Rep16.sub (a := t16 z16) zeroR_ok.toLen hx.toLen
theorem ofP_ok (s : ByteArray) : IsP (ofP s) (ptV s) := by
  have hy : Rep (ykP s) (yV s) := by
    unfold ykP
    rw [keepL_id (n := 5) (L := uL s) _ (toLen_toLen 5 _)]
    exact uL_ok s
  exact madeP_ok (v := ptV s) (xxP_ok s) hy one5_ok ((xxP_ok s).M5 hy)
theorem keepR_id (b : Bool) (L : List Int) : keepR b L = L := by unfold keepR; exact Bool.cond_self _ _
theorem ofQ_ok {s : ByteArray} (hs : s.size = 32) : IsQ (ofQ s) (ptV s) := by
  have hy : Rep16 (ykQ s) (yV s) := by
    unfold ykQ
    rw [keepR_id]
    exact uR_ok hs
  refine ⟨xxQ_ok hs, hy, ?_, (xxQ_ok hs).toLen.mul hy.toLen⟩
  show Rep16 (keepR (oddQ s) (smallR 1)) 1
  rw [keepR_id]
  exact smallR_ok (n := 1) (by decide)
/-! ### Contracts -/
def ptE (s : ByteArray) : Int := bif decide (s.size = 32) then (bif badP s then 21 else 0) else 1
def ptLP (s : ByteArray) : List Int := bif decide (s.size = 32) then (bif badP s then zero20 else ofP s) else zero20
def ptRQ (s : ByteArray) : R4 := bif decide (s.size = 32) then (bif badP s then zeroPR else ofQ s) else zeroPR
def ptA (s : ByteArray) : PV := if s.size = 32 ∧ badP s = false then ptV s else zeroV
theorem ptLP_ok (s : ByteArray) : IsP (ptLP s) (ptA s) := by
  unfold ptLP ptA
  by_cases h : s.size = 32
  · rw [decide_eq_true h, cond_true]
    cases c : badP s
    · rw [if_pos ⟨h, rfl⟩]; exact ofP_ok s
    · rw [if_neg (by simp)]; exact zeroP_ok
  · rw [decide_eq_false h, cond_false, if_neg (fun c => h c.1)]; exact zeroP_ok
theorem ptRQ_ok (s : ByteArray) : IsQ (ptRQ s) (ptA s) := by
  unfold ptRQ ptA
  by_cases h : s.size = 32
  · rw [decide_eq_true h, cond_true]
    cases c : badP s
    · rw [if_pos ⟨h, rfl⟩]; exact ofQ_ok h
    · rw [if_neg (by simp)]; exact zeroPR_ok
  · rw [decide_eq_false h, cond_false, if_neg (fun c => h c.1)]; exact zeroPR_ok
theorem bad_wp {b1 b2 o z : Bool} {N K : TT} {x : TV} (hN : (b1 || (b2 || (o && z))) = true → N.wp (fun y => y = x)) (hK : (b1 || (b2 || (o && z))) = false → K.wp (fun y => y = x)) : TT.wp (.br b1 N (.br b2 N (.br o (.br z N K) K))) (fun y => y = x) := by
  cases b1
  · cases b2
    · cases o
      · exact ⟨fun h => (by cases h), fun _ => ⟨fun h => (by cases h), fun _ => ⟨fun h => (by cases h), fun _ => hK rfl⟩⟩⟩
      · cases z
        · exact ⟨fun h => (by cases h), fun _ => ⟨fun h => (by cases h), fun _ => ⟨fun _ => ⟨fun h => (by cases h), fun _ => hK rfl⟩, fun h => (by cases h)⟩⟩⟩
        · exact ⟨fun h => (by cases h), fun _ => ⟨fun h => (by cases h), fun _ => ⟨fun _ => ⟨fun _ => hN rfl, fun h => (by cases h)⟩, fun h => (by cases h)⟩⟩⟩
    · exact ⟨fun h => (by cases h), fun _ => ⟨fun _ => hN rfl, fun h => (by cases h)⟩⟩
  · exact ⟨fun _ => hN rfl, fun h => (by cases h)⟩
def ofPT (s : ByteArray) : TV := .tup [.agg (cellsL .u64 20 (ptLP s)), .one (.int .i64 (ptE s))]
def ofQT (s : ByteArray) : TV := .tup [ptS (ptRQ s), .one (.int .i64 (ptE s))]
theorem ofPT_yes {s : ByteArray} (h : s.size = 32) : ofPT s = .tup [.agg (cellsL .u64 20 (bif badP s then zero20 else ofP s)), .one (.int .i64 (bif badP s then 21 else 0))] := by
  unfold ofPT ptLP ptE
  rw [decide_eq_true h]
  rfl
theorem ofQT_yes {s : ByteArray} (h : s.size = 32) : ofQT s = .tup [ptS (bif badP s then zeroPR else ofQ s), .one (.int .i64 (bif badP s then 21 else 0))] := by
  unfold ofQT ptRQ ptE
  rw [decide_eq_true h]
  rfl
theorem ofPT_no {s : ByteArray} (h : ¬ s.size = 32) : ofPT s = .tup [.agg (cellsL .u64 20 zero20), .one (.int .i64 1)] := by
  unfold ofPT ptLP ptE
  rw [decide_eq_false h]
  rfl
theorem ofQT_no {s : ByteArray} (h : ¬ s.size = 32) : ofQT s = .tup [ptS zeroPR, .one (.int .i64 1)] := by
  unfold ofQT ptRQ ptE
  rw [decide_eq_false h]
  rfl
def ctsPt : List Ct := [ctOf, ctBytesF, ctOneP, ctFactorP, ctAddF, ctSubF, ctMulF, ctInvF, ctRootF, ctMadeP]
theorem ctsPt_ok : ∀ c ∈ ctsPt, CtOk Try.prog c := allOk ⟨ctOf_ok, ctBytesF_ok, ctOneP_ok, ctFactorP_ok, ctAddF_ok, ctSubF_ok, ctMulF_ok, ctInvF_ok, ctRootF_ok, ctMadeP_ok, trivial⟩
def ctPtOf : Ct := shCt 47 [.str] fun ds => ([], ofPT (dS ds 0))
def noSizeP (s : ByteArray) : TT := runC Try.prog [] [] [] 0 Try.f47 (bodyOf Try.f47) [.one (.str s)]
def noSizeQ (s : ByteArray) : TT := runC Try.prog [ctZeroPR] [] [] 0 Try.f48 (bodyOf Try.f48) [.one (.str s)]
def elseT : TT → TT
  | .br _ _ e => e
  | t => t
theorem ctPtOf_ok : CtOk Try.prog ctPtOf :=
  shCt_ok Try.func47 (by kernel_rfl) (by kernel_rfl) fun ds h _ => match ds, h with
    | [.S s], h => ⟨by simp [TV.free, SV.free, RC.free, cellsL_free, ofPT], fun w away hfar vs hvs => by
      show Calls Try.prog 47 ⟨vs⟩ w (RetT w away (ofPT s))
      by_cases hs : s.size = 32
      · refine calls_of_runT (cts := ctsPt) (lps := []) (fz := []) (fuel := 10) mix ctsPt_ok Try.func47 (c := bodyOf Try.f47) (by kernel_rfl) (fun _ _ g hg => by cases hg) (args := [.one (.strn s 32 hs)]) (by simp [TV.free, SV.free, RC.free, cellsL_free, ofPT]) ?_ hfar (by cases vs with | nil => exact hvs.elim | cons v vs => exact hvs)
        rw [show runC Try.prog ctsPt [] [] 10 Try.f47 (bodyOf Try.f47) [.one (.strn s 32 hs)] = _ from ofP_run s hs, ofPT_yes hs]
        refine bad_wp (fun c => ?_) fun c => ?_
        · rw [show badP s = true from c]; rfl
        · rw [show badP s = false from c]; rfl
      · refine calls_of_runT (cts := []) (lps := []) (fz := []) (fuel := 0) mix (by simp) Try.func47 (c := bodyOf Try.f47) (by kernel_rfl) (fun _ _ g hg => by cases hg) (args := [.one (.str s)]) (by simp [TV.free, SV.free, RC.free, cellsL_free, ofPT]) ?_ hfar hvs
        have hr : runC Try.prog [] [] [] 0 Try.f47 (bodyOf Try.f47) [.one (.str s)] = .br ((s.size : Int) != 32) (.leaf (.tup [.agg (cellsL .u64 20 zero20), .one (.int .i64 1)])) (elseT (noSizeP s)) := by kernel_rfl
        rw [hr, ofPT_no hs]
        exact TT.br_t (by rw [bne_iff_ne]; omega) rfl⟩
def ctsPq : List Ct := [ctOfRef, ctBytesR, ctFactorR, ctAddR, ctSubR, ctMulR, ctInvR, ctRootR, ctSameR, ctZeroR, ctSmallR, ctZeroPR]
theorem ctsPq_ok : ∀ c ∈ ctsPq, CtOk Try.prog c := allOk ⟨ctOfRef_ok, ctBytesR_ok, ctFactorR_ok, ctAddR_ok, ctSubR_ok, ctMulR_ok, ctInvR_ok, ctRootR_ok, ctSameR_ok, ctZeroR_ok, ctSmallR_ok, ctZeroPR_ok, trivial⟩
def ctPtOfQ : Ct := shCt 48 [.str] fun ds => ([], ofQT (dS ds 0))
theorem ctPtOfQ_ok : CtOk Try.prog ctPtOfQ :=
  shCt_ok Try.func48 (by kernel_rfl) (by kernel_rfl) fun ds h _ => match ds, h with
    | [.S s], h => ⟨rfl, fun w away hfar vs hvs => by
      show Calls Try.prog 48 ⟨vs⟩ w (RetT w away (ofQT s))
      by_cases hs : s.size = 32
      · refine calls_of_runT (cts := ctsPq) (lps := []) (fz := [1013007, 1016002]) (fuel := 10) mix ctsPq_ok Try.func48 (c := bodyOf Try.f48) (by kernel_rfl) (fun _ _ g hg => by cases hg) (args := [.one (.strn s 32 hs)]) rfl ?_ hfar (by cases vs with | nil => exact hvs.elim | cons v vs => exact hvs)
        rw [show runC Try.prog ctsPq [] [1013007, 1016002] 10 Try.f48 (bodyOf Try.f48) [.one (.strn s 32 hs)] = _ from ofQ_run s hs, ofQT_yes hs, ← bad_eq hs]
        refine bad_wp (fun c => ?_) fun c => ?_
        · rw [show badQ s = true from c]; rfl
        · rw [show badQ s = false from c]; rfl
      · refine calls_of_runT (cts := [ctZeroPR]) (lps := []) (fz := []) (fuel := 0) mix (allOk ⟨ctZeroPR_ok, trivial⟩) Try.func48 (c := bodyOf Try.f48) (by kernel_rfl) (fun _ _ g hg => by cases hg) (args := [.one (.str s)]) rfl ?_ hfar hvs
        have hr : runC Try.prog [ctZeroPR] [] [] 0 Try.f48 (bodyOf Try.f48) [.one (.str s)] = .br ((s.size : Int) != 32) (.leaf (.tup [ptS zeroPR, .one (.int .i64 1)])) (elseT (noSizeQ s)) := by kernel_rfl
        rw [hr, ofQT_no hs]
        exact TT.br_t (by rw [bne_iff_ne]; omega) rfl⟩
end Go.Proofs.Ytkkekjkfafnahaa.Fd
