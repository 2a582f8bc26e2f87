/- A point so many times, a number of any size; Base; on both sides. -/
import Derived.Test.YtkkekjkfafnahaaPtf
noncomputable section
namespace Go.Proofs.Ytkkekjkfafnahaa.Fd
open Go Go.RowKit RX
set_option linter.unusedSimpArgs false
set_option maxRecDepth 1000000
theorem toLen_same {n : Nat} {L : List Int} (h : L.length = n) : RX.toLen n L = L := by
  refine List.ext_getElem (by rw [toLen_length, h]) fun i h1 h2 => ?_
  rw [toLen_length] at h1
  have e := toLen_getD (n := n) (L := L) (j := i) h1
  have l1 : i < (RX.toLen n L).length := by rw [toLen_length]; exact h1
  simp only [List.getD_eq_getElem?_getD, List.getElem?_eq_getElem l1, List.getElem?_eq_getElem h2, Option.getD_some] at e
  exact e
def mlE (n : ByteArray) : Int := bif decide (n.size = 32) then 0 else 1
def mlLP (L : List Int) (n : ByteArray) : List Int := bif decide (n.size = 32) then mulP kP (toLen 20 L) n 256 else zero20
def mlRQ (p : R4) (n : ByteArray) : R4 := bif decide (n.size = 32) then mulPR (t16 kR) p n 256 else zeroPR
def mlV (v : PV) (n : ByteArray) : PV := if n.size = 32 then mulV (bitS n) v 256 else zeroV
theorem mlLP_ok {L : List Int} {v : PV} (h : IsP L v) (n : ByteArray) : IsP (mlLP L n) (mlV v n) := by
  unfold mlLP mlV
  by_cases c : n.size = 32
  · rw [decide_eq_true c, if_pos c]; exact mulP_ok (toLen20_ok h) n 256
  · rw [decide_eq_false c, if_neg c]; exact zeroP_ok
theorem mlRQ_ok {p : R4} {v : PV} (h : IsQ p v) (n : ByteArray) : IsQ (mlRQ p n) (mlV v n) := by
  unfold mlRQ mlV
  by_cases c : n.size = 32
  · rw [decide_eq_true c, if_pos c]; exact mulPR_ok h n 256
  · rw [decide_eq_false c, if_neg c]; exact zeroPR_ok
def mlPT (L : List Int) (n : ByteArray) : TV := .tup [.agg (cellsL .u64 20 (mlLP L n)), .one (.int .i64 (mlE n))]
def mlQT (p : R4) (n : ByteArray) : TV := .tup [ptS (mlRQ p n), .one (.int .i64 (mlE n))]
def ctMulNoP : Ct := shCt 60 [.nums .u64 20, .str] fun ds => ([¬ (dS ds 1).size = 32], .tup [.agg (cellsL .u64 20 zero20), .one (.int .i64 1)])
def noMulP (L : List Int) (n : ByteArray) : TT := runC Try.prog [] [] [] 0 Try.f60 (bodyOf Try.f60) [.agg (cellsL .u64 20 L), .one (.str n)]
theorem ctMulNoP_ok : CtOk Try.prog ctMulNoP :=
  runCt_ok (cts := []) (lps := []) (fz := []) (fuel := 0) mix (by simp) Try.func60 (c := bodyOf Try.f60) (by kernel_rfl) (by kernel_rfl) (fun _ _ g hg => by cases hg) (fun _ => by simp [TV.free, SV.free, RC.free, cellsL_free]) fun ds h hn => match ds, h, hn with
    | [.L p, .S n], h, hn => ⟨_, viewArgs_is h, by
      have h1 : ¬ n.size = 32 := hn _ (List.mem_cons_self ..)
      have hr : runC Try.prog [] [] [] 0 Try.f60 (bodyOf Try.f60) (viewArgs [.nums .u64 20, .str] [.L p, .S n] h) = .br ((n.size : Int) != 32) (.leaf (.tup [.agg (cellsL .u64 20 zero20), .one (.int .i64 1)])) (elseT (noMulP p n)) := by kernel_rfl
      rw [hr]
      exact TT.br_t (by rw [bne_iff_ne]; omega) rfl⟩
def ctMulNoQ : Ct := shCt 61 [.frzs .i64 16 4, .str] fun ds => ([¬ (dS ds 1).size = 32], .tup [ptS zeroPR, .one (.int .i64 1)])
def noMulQ (a b c d : List Int) (n : ByteArray) : TT := runC Try.prog [ctZeroPR] [] [] 0 Try.f61 (bodyOf Try.f61) [ptS ⟨a, b, c, d⟩, .one (.str n)]
theorem ctMulNoQ_ok : CtOk Try.prog ctMulNoQ :=
  runCt_ok (cts := [ctZeroPR]) (lps := []) (fz := []) (fuel := 0) mix (allOk ⟨ctZeroPR_ok, trivial⟩) Try.func61 (c := bodyOf Try.f61) (by kernel_rfl) (by kernel_rfl) (fun _ _ g hg => by cases hg) (fun _ => rfl) fun ds h hn => match ds, h, hn with
    | [.LL l, .S n], h, hn => by
      obtain ⟨a, b, c, d, rfl⟩ := four h.1.1
      have h1 : ¬ n.size = 32 := hn _ (List.mem_cons_self ..)
      refine ⟨_, viewArgs_is h, ?_⟩
      have hr : runC Try.prog [ctZeroPR] [] [] 0 Try.f61 (bodyOf Try.f61) (viewArgs [.frzs .i64 16 4, .str] [.LL [a, b, c, d], .S n] h) = .br ((n.size : Int) != 32) (.leaf (.tup [ptS zeroPR, .one (.int .i64 1)])) (elseT (noMulQ a b c d n)) := by kernel_rfl
      rw [hr]
      exact TT.br_t (by rw [bne_iff_ne]; omega) rfl
def ctMulP : Ct := shCt 60 [.nums .u64 20, .str] fun ds => ([], mlPT (dL ds 0) (dS ds 1))
theorem ctMulP_ok : CtOk Try.prog ctMulP := caseCt fun ds h _ => match ds, h with
  | [.L p, .S n], h => by
    by_cases c : n.size = 32
    · exact ⟨_, _, viewArgs [.nums .u64 20, .strn 32] [.L p, .S n] ⟨h.1, c, trivial⟩, [.L (toLen 20 p), .S n], ctMulPt_ok, by kernel_rfl, fun β vs r => viewArgs_is (shs := [.nums .u64 20, .strn 32]) (ds := [.L p, .S n]) _ β vs r, by simp, by
        show (mlPT p n).norm = TV.norm (.tup [.agg (cellsL .u64 20 (mulP kP (toLen 20 (toLen 20 p)) n 256)), .one (.int .i64 0)])
        unfold mlPT mlLP mlE
        rw [decide_eq_true c, toLen_toLen]
        rfl⟩
    · exact ⟨_, _, [.agg (cellsL .u64 20 p), .one (.str n)], [.L (toLen 20 p), .S n], ctMulNoP_ok, by kernel_rfl, fun β vs r => viewArgs_is (shs := [.nums .u64 20, .str]) (ds := [.L p, .S n]) h β vs r, (fun q hq => by rw [List.mem_singleton.1 hq]; exact c), by
        show (mlPT p n).norm = TV.norm (.tup [.agg (cellsL .u64 20 zero20), .one (.int .i64 1)])
        unfold mlPT mlLP mlE
        rw [decide_eq_false c]
        rfl⟩
def ctMulQ : Ct := shCt 61 [.frzs .i64 16 4, .str] fun ds => ([], mlQT (r4 (dLL ds 0)) (dS ds 1))
theorem ctMulQ_ok : CtOk Try.prog ctMulQ := caseCt fun ds h _ => match ds, h with
  | [.LL l, .S n], h => by
    obtain ⟨a, b, c, d, rfl⟩ := four h.1.1
    by_cases hc : n.size = 32
    · exact ⟨_, _, [ptS ⟨a, b, c, d⟩, .one (.strn n 32 hc)], [.LL [t16 a, t16 b, t16 c, t16 d], .S n], ctMulPR_ok, by kernel_rfl, fun β vs r => (by cases vs with | nil => exact r.elim | cons v vs => cases vs with | nil => exact r.2.elim | cons u us => exact r), by simp, by
        have ea := h.1.2 a (by simp)
        have eb := h.1.2 b (by simp)
        have ec := h.1.2 c (by simp)
        have ed := h.1.2 d (by simp)
        show (mlQT ⟨a, b, c, d⟩ n).norm = TV.norm (.tup [ptS (mulPR (t16 kR) ⟨t16 a, t16 b, t16 c, t16 d⟩ n 256), .one (.int .i64 0)])
        unfold mlQT mlRQ mlE t16
        rw [decide_eq_true hc, toLen_same ea, toLen_same eb, toLen_same ec, toLen_same ed]
        rfl⟩
    · exact ⟨_, _, [ptS ⟨a, b, c, d⟩, .one (.str n)], [.LL [t16 a, t16 b, t16 c, t16 d], .S n], ctMulNoQ_ok, by kernel_rfl, fun β vs r => r, (fun q hq => by rw [List.mem_singleton.1 hq]; exact hc), by
        show (mlQT ⟨a, b, c, d⟩ n).norm = TV.norm (.tup [ptS zeroPR, .one (.int .i64 1)])
        unfold mlQT mlRQ mlE
        rw [decide_eq_false hc]
        rfl⟩
/-! ### Base -/
def baseS : ByteArray := BF (mulF (small5 4) (toLen 5 (invF (small5 5))))
def baseSQ : ByteArray := BR (mulR (t16 (smallR 4)) (t16 (invR (t16 (smallR 5)))))
def bV0 : Int := 4 * 5 ^ (2 ^ 255 - 21)
theorem baseS_is : baseS = strI (bV0 % pF) := BF_ok ((s5 (n := 4)).mul (Rep.toLen (inv_ok (s5 (n := 5)).pw)))
theorem baseSQ_is : baseSQ = strI (bV0 % pF) := BR_ok ((smallR_ok (n := 4) (by decide)).toLen.mul (Rep16.toLen (invR_ok (smallR_ok (n := 5) (by decide)).toLen)))
def ctBaseP : Ct := shCt 57 [] fun _ => ([], numsT .u64 20 (ptLP baseS))
theorem ctBaseP_ok : CtOk Try.prog ctBaseP :=
  oneCt_ok (cts := [ctPtOf, ctSmallF, ctInvF, ctMulF, ctBytesF]) (fz := []) (fuel := 10) mix (allOk ⟨ctPtOf_ok, ctSmallF_ok, ctInvF_ok, ctMulF_ok, ctBytesF_ok, trivial⟩) Try.func57 (by kernel_rfl) (by kernel_rfl) (fun _ => rfl) fun ds h _ => match ds, h with
    | [], h => ⟨_, viewArgs_is h, [], by kernel_rfl, by simp⟩
def ctBaseQ : Ct := shCt 59 [] fun _ => ([], .sv (ptS (ptRQ baseSQ)))
theorem ctBaseQ_ok : CtOk Try.prog ctBaseQ :=
  oneCt_ok (cts := [ctPtOfQ, ctSmallR, ctInvR, ctMulR, ctBytesR]) (fz := []) (fuel := 10) mix (allOk ⟨ctPtOfQ_ok, ctSmallR_ok, ctInvR_ok, ctMulR_ok, ctBytesR_ok, trivial⟩) Try.func59 (by kernel_rfl) (by kernel_rfl) (fun _ => rfl) fun ds h _ => match ds, h with
    | [], h => ⟨_, viewArgs_is h, [], by kernel_rfl, by simp⟩
end Go.Proofs.Ytkkekjkfafnahaa.Fd
