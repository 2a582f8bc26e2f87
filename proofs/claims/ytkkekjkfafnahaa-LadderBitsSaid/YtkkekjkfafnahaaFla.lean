/- The walk of the statements of layer 8: numbers out of texts of any size; the example of the chapter. -/
import Derived.Test.YtkkekjkfafnahaaFro
noncomputable section
namespace Go.Proofs.Ytkkekjkfafnahaa.Fd
open Go Go.RowKit RX
set_option linter.unusedSimpArgs false
def has (n : Nat) (s : ByteArray) : Bool := decide (s.size = n)
theorem size_ne {s : ByteArray} {n : Nat} (h : ¬ s.size = n) : ((s.size : Int) != (n : Int)) = true := by simp; omega
def errB (b : Bool) : Int := bif b then 0 else 1
def selF (s : ByteArray) : List Int := bif has 32 s then ofF s else zeroF
def selR (s : ByteArray) : List Int := bif has 32 s then ofR s else toLen 16 zeroR
/-- A number out of a text of whatever size. -/
def genF (s : ByteArray) : TV := .tup [.agg (cellsL .u64 5 (selF s)), .one (.int .i64 (errB (has 32 s)))]
def genR (s : ByteArray) : TV := .tup [.one (.frz .i64 (selR s) 16), .one (.int .i64 (errB (has 32 s)))]
theorem genF_free (s : ByteArray) : (genF s).free = true := by simp [genF, TV.free, SV.free, RC.free, cellsL_free]
def noF : TV := .tup [.agg (cellsL .u64 5 zeroF), .one (.int .i64 1)]
def noR : TV := .tup [.one (.frz .i64 (toLen 16 zeroR) 16), .one (.int .i64 1)]
def ctOfNo : Ct := shCt 30 [.str] fun ds => ([¬ (dS ds 0).size = 32], noF)
theorem ctOfNo_ok : CtOk Try.prog ctOfNo :=
  runCt_ok (cts := []) (lps := []) (fz := []) (fuel := 40) mix (by simp) Try.func30 (c := bodyOf Try.f30) (by kernel_rfl) (by kernel_rfl) (fun _ _ g hg => by cases hg) (fun _ => by simp [noF, TV.free, SV.free, RC.free, cellsL_free]) fun ds h hn => match ds, h, hn with
    | [.S s], h, hn => ⟨_, viewArgs_is h, by
      have hr : runC Try.prog [] [] [] 40 Try.f30 (bodyOf Try.f30) (viewArgs [.str] [.S s] h) = .br ((s.size : Int) != 32) (.leaf noF) .stuck := by kernel_rfl
      rw [hr]
      exact TT.br_t (size_ne (hn _ (List.mem_singleton.2 rfl))) (by simp [noF, TT.wp, TV.norm, SV.norm, RC.norm, cellsL])⟩
def ctOfNoR : Ct := shCt 31 [.str] fun ds => ([¬ (dS ds 0).size = 32], noR)
theorem ctOfNoR_ok : CtOk Try.prog ctOfNoR :=
  runCt_ok (cts := [ctZeroR]) (lps := []) (fz := []) (fuel := 0) mix (allOk ⟨ctZeroR_ok, trivial⟩) Try.func31 (c := bodyOf Try.f31) (by kernel_rfl) (by kernel_rfl) (fun _ _ g hg => by cases hg) (fun _ => rfl) fun ds h hn => match ds, h, hn with
    | [.S s], h, hn => ⟨_, viewArgs_is h, by
      have hr : runC Try.prog [ctZeroR] [] [] 0 Try.f31 (bodyOf Try.f31) (viewArgs [.str] [.S s] h) = .br ((s.size : Int) != 32) (.leaf noR) .stuck := by kernel_rfl
      rw [hr]
      exact TT.br_t (size_ne (hn _ (List.mem_singleton.2 rfl))) (by simp [noR, TT.wp, TV.norm, SV.norm, RC.norm])⟩
def ctOfG : Ct := shCt 30 [.str] fun ds => ([], genF (dS ds 0))
theorem ctOfG_ok : CtOk Try.prog ctOfG := splitCt ctOfF_ok ctOfNo_ok
  (fun s hs => ⟨by simp, by simp [genF, selF, has, hs, errB, okF, dS, TV.norm, SV.norm, RC.norm]⟩) (fun s hs => ⟨by simp [dS, hs], by simp [genF, selF, has, hs, errB, noF, dS, TV.norm, SV.norm, RC.norm]⟩)
def ctOfGR : Ct := shCt 31 [.str] fun ds => ([], genR (dS ds 0))
theorem ctOfGR_ok : CtOk Try.prog ctOfGR := splitCt ctOfR_ok ctOfNoR_ok
  (fun s hs => ⟨by simp, by simp [genR, selR, has, hs, errB, okR, dS, TV.norm, SV.norm, RC.norm]⟩) (fun s hs => ⟨by simp [dS, hs], by simp [genR, selR, has, hs, errB, noR, dS, TV.norm, SV.norm, RC.norm]⟩)
/-- One contract where more is known, and else the one for all texts. -/
def ctOf : Ct := orCt ctOfF ctOfG
theorem ctOf_ok : CtOk Try.prog ctOf := orCt_ok ctOfF_ok ctOfG_ok rfl
def ctOfRef : Ct := orCt ctOfR ctOfGR
theorem ctOfRef_ok : CtOk Try.prog ctOfRef := orCt_ok ctOfR_ok ctOfGR_ok rfl
end Go.Proofs.Ytkkekjkfafnahaa.Fd
