/- The walk of the statements of layer 9. -/
import Derived.Test.YtkkekjkfafnahaaLdh
noncomputable section
namespace Go.Proofs.Ytkkekjkfafnahaa.Fd
open Go Go.RowKit RX
set_option linter.unusedSimpArgs false
set_option maxRecDepth 1000000
def yesL : TT := .leaf (bool1 true)
def noL : TT := .leaf (bool1 false)
def ctAwakeL : Ct := shCt 44 [] fun _ => ([], bool1 true)
theorem shareS {a p : ByteArray} {s : ByteArray} {e : Int} (h : shareT a p = .tup [.one (.str s), .one (.int .i64 e)]) : keyS a p = s ∧ keyE a p = e := by
  unfold shareT at h
  injection h with h
  injection h with h1 h2
  injection h1 with h1
  injection h1 with h1
  injection h2 with h2 _
  injection h2 with h2
  injection h2 with _ h2
  exact ⟨h1, h2⟩
theorem ctAwakeL_ok : CtOk Try.prog ctAwakeL :=
  runCtL_ok (cts := [ctFill, ctPublicP, ctShareP]) (fz := []) (fuel := 10) mix (allOk ⟨ctFill_ok, ctPublicP_ok, ctShareP_ok, trivial⟩) Try.func44 (c := bodyOf Try.f44) (by kernel_rfl) (by kernel_rfl) (fun _ => rfl) fun ds h _ => match ds, h with
    | [], h => by
      refine ⟨[], (fun _ _ _ hg => by cases hg), [], fun _ _ h => h, ?_⟩
      have hr : runC Try.prog [ctFill, ctPublicP, ctShareP] [] [] 10 Try.f44 (bodyOf Try.f44) [] =
          .br (keyE (fillS 17) nineS == 0) (.br (((keyS (fillS 17) nineS).size : Int) == 32) (.need ((0 : Int) ≤ 0) (.need ((0 : Int) ≤ 4) (.need ((4 : Int) ≤ ((keyS (fillS 17) nineS).size : Int)) (.br (((keyS (fillS 17) nineS).extract (Int.toNat 0) (Int.toNat 4)).toList == (⟨#[123, 78, 144, 155]⟩ : ByteArray).toList) (.leaf (bool1 (keyE (fillS 1) (fillS 0) == 21))) noL)))) noL) noL := by kernel_rfl
      have h1 := (shareS key17).1
      have h2 := (shareS key17).2
      have h4 : keyE (fillS 1) (fillS 0) = 21 := (shareS (s := .empty) (e := 21) key1).2
      rw [hr]
      have e1 : (keyE (fillS 17) nineS == 0) = true := by rw [h2]; exact beq_self_eq_true _
      have e2 : ((keyS (fillS 17) nineS).size : Int) = 32 := by rw [h1, strI_size]; rfl
      have e3 : (((keyS (fillS 17) nineS).extract (Int.toNat 0) (Int.toNat 4)).toList == (⟨#[123, 78, 144, 155]⟩ : ByteArray).toList) = true := by
        rw [toList_beq, h1]
        decide +kernel
      have e4 : (keyE (fillS 1) (fillS 0) == 21) = true := by rw [h4]; exact beq_self_eq_true _
      generalize keyE (fillS 17) nineS = E at *
      generalize keyS (fillS 17) nineS = S at *
      generalize keyE (fillS 1) (fillS 0) = G at *
      refine TT.br_t e1 (TT.br_t ?_ ⟨Int.le_refl _, by decide, ?_, TT.br_t e3 ?_⟩)
      · rw [e2]; rfl
      · rw [e2]; decide
      · show bool1 (G == 21) = bool1 true
        rw [e4]
theorem ladderShares_calls (a b : ByteArray) (w : World) : Calls Try.prog 15 ⟨[.string a, .string b]⟩ w (RetT w noaway (bool1 true)) := by
  have hr : runC Try.prog [ctShareP, ctShareQ, ctAwakeL] [] [] 10 Try.f15 (bodyOf Try.f15) [.one (.str a), .one (.str b)] =
      .br ((keyS a b).toList == (keyS a b).toList) (.br (keyE a b == keyE a b) yesL noL) noL := by kernel_rfl
  refine calls_of_runT (cts := [ctShareP, ctShareQ, ctAwakeL]) (lps := []) (fz := []) (fuel := 10) mix (allOk ⟨ctShareP_ok, ctShareQ_ok, ctAwakeL_ok, trivial⟩) Try.func15 (c := bodyOf Try.f15) (by kernel_rfl) (fun _ _ g hg => by cases hg) (args := [.one (.str a), .one (.str b)]) rfl ?_ (fun k hk => hk.elim) ⟨rfl, rfl, trivial⟩
  rw [hr]
  exact TT.br_t (beq_self_eq_true _) (TT.br_t (beq_self_eq_true _) rfl)
theorem ladderPublic_calls (a : ByteArray) (w : World) : Calls Try.prog 16 ⟨[.string a]⟩ w (RetT w noaway (bool1 true)) := by
  have hr : runC Try.prog [ctPublicP, ctPublicQ, ctAwakeL] [] [] 10 Try.f16 (bodyOf Try.f16) [.one (.str a)] =
      .br ((keyS a nineS).toList == (keyS a nineR).toList) (.br (keyE a nineS == keyE a nineR) yesL noL) noL := by kernel_rfl
  refine calls_of_runT (cts := [ctPublicP, ctPublicQ, ctAwakeL]) (lps := []) (fz := []) (fuel := 10) mix (allOk ⟨ctPublicP_ok, ctPublicQ_ok, ctAwakeL_ok, trivial⟩) Try.func16 (c := bodyOf Try.f16) (by kernel_rfl) (fun _ _ g hg => by cases hg) (args := [.one (.str a)]) rfl ?_ (fun k hk => hk.elim) ⟨rfl, trivial⟩
  rw [hr, nine_eq]
  exact TT.br_t (beq_self_eq_true _) (TT.br_t (beq_self_eq_true _) rfl)
end Go.Proofs.Ytkkekjkfafnahaa.Fd
