/- The statements of layer 1, part a: the examples; what the digests of any bytes are. -/
import Derived.Test.YtihmhnfjdkkbgaaSu32
import Derived.Test.YtihmhnfjdkkbgaaSu64
import Derived.Test.YtihmhnfjdkkbgaaRxO
noncomputable section
namespace Go.Proofs.Ytihmhnfjdkkbgaa
open Go Go.RowKit RX Sh
set_option linter.unusedSimpArgs false
set_option maxRecDepth 10000000
/-! ### The examples -/
def abc : ByteArray := ⟨#[97, 98, 99]⟩
theorem abc32 : Sh32.hN (Sh32.fullB abc) 1 = [0xba7816bf, 0x8f01cfea, 0x414140de, 0x5dae2223, 0xb00361a3, 0x96177a9c, 0xb410ff61, 0xf20015ad] := by decide +kernel
theorem abc64 : Sh64.hN (Sh64.fullB abc) 1 = [0xddaf35a193617aba, 0xcc417349ae204131, 0x12e6fa4e89a97ea2, 0x0a9eeee64b55d39a, 0x2192992a274fc1a8, 0x36ba3c23a3feebbd, 0x454d4423643ce80e, 0x2a9ac94fa54ca49f] := by decide +kernel
theorem dg32 : (Sh32.dgS abc).extract 0 4 = ⟨#[186, 120, 22, 191]⟩ := by
  have e : (Sh32.fullB abc).length / 64 = 1 := by decide +kernel
  unfold Sh32.dgS Sh32.dgL
  rw [e, abc32]
  decide +kernel
theorem dg64 : (Sh64.dgS abc).extract 0 4 = ⟨#[221, 175, 53, 161]⟩ := by
  have e : (Sh64.fullB abc).length / 128 = 1 := by decide +kernel
  unfold Sh64.dgS Sh64.dgL
  rw [e, abc64]
  decide +kernel
theorem abc_size : abc.size ≤ 1099511627776 := by decide +kernel
def yesS : TT := .leaf (bool1 true)
def noS : TT := .leaf (bool1 false)
def ctAwakeS : Ct := shCt 27 [] fun _ => ([], bool1 true)
theorem ctAwakeS_ok : CtOk Try.prog ctAwakeS :=
  runCtL_ok (cts := [Sh32.ctSum, Sh64.ctSum]) (fz := []) (fuel := 10) mix (allOk ⟨Sh32.ctSum_ok, Sh64.ctSum_ok, trivial⟩) Try.func27 (c := bodyOf Try.f27) (by kernel_rfl) (by kernel_rfl) (fun _ => rfl) fun ds h _ => match ds, h with
    | [], h => by
      refine ⟨[], (fun _ _ _ hg => by cases hg), [], fun _ _ h => h, ?_⟩
      have hr : runC Try.prog [Sh32.ctSum, Sh64.ctSum] [] [] 10 Try.f27 (bodyOf Try.f27) [] =
          .need (abc.size ≤ 1099511627776) (.need (abc.size ≤ 1099511627776) (.br (((Sh32.dgS abc).extract 0 4).toList == (⟨#[186, 120, 22, 191]⟩ : ByteArray).toList) (.leaf (bool1 (((Sh64.dgS abc).extract 0 4).toList == (⟨#[221, 175, 53, 161]⟩ : ByteArray).toList))) noS)) := by kernel_rfl
      rw [hr, dg32, dg64]
      refine ⟨abc_size, abc_size, TT.br_t (beq_self_eq_true _) ?_⟩
      show bool1 ((⟨#[221, 175, 53, 161]⟩ : ByteArray).toList == (⟨#[221, 175, 53, 161]⟩ : ByteArray).toList) = bool1 true
      rw [beq_self_eq_true]
theorem shaSmall_calls (data : ByteArray) (w : World) : Calls Try.prog 3 ⟨[.string data]⟩ w (RetT w noaway (bool1 true)) := by
  have hr : runC Try.prog [Sh32.ctSum, Sh32.ctSumR, ctAwakeS] [] [] 10 Try.f3 (bodyOf Try.f3) [.one (.str data)] =
      .br (decide ((data.size : Int) > 50000)) yesS (.need (data.size ≤ 1099511627776) (.need (data.size ≤ 1099511627776) (.br ((Sh32.dgS data).toList == (Sh32.smS data).toList) yesS noS))) := by kernel_rfl
  refine calls_of_runT (cts := [Sh32.ctSum, Sh32.ctSumR, ctAwakeS]) (lps := []) (fz := []) (fuel := 10) mix (allOk ⟨Sh32.ctSum_ok, Sh32.ctSumR_ok, ctAwakeS_ok, trivial⟩) Try.func3 (c := bodyOf Try.f3) (by kernel_rfl) (fun _ _ g hg => by cases hg) (args := [.one (.str data)]) rfl ?_ (fun k hk => hk.elim) ⟨rfl, trivial⟩
  rw [hr]
  refine ⟨fun _ => rfl, fun hb => ?_⟩
  have hd : data.size ≤ 1099511627776 := by
    have := of_decide_eq_false hb
    omega
  exact ⟨hd, hd, TT.br_t (by rw [Sh32.sm_eq hd]; exact beq_self_eq_true _) rfl⟩
theorem shaGreat_calls (data : ByteArray) (w : World) : Calls Try.prog 4 ⟨[.string data]⟩ w (RetT w noaway (bool1 true)) := by
  have hr : runC Try.prog [Sh64.ctSum, Sh64.ctSumR, ctAwakeS] [] [] 10 Try.f4 (bodyOf Try.f4) [.one (.str data)] =
      .br (decide ((data.size : Int) > 50000)) yesS (.need (data.size ≤ 1099511627776) (.need (data.size ≤ 1099511627776) (.br ((Sh64.dgS data).toList == (Sh64.smS data).toList) yesS noS))) := by kernel_rfl
  refine calls_of_runT (cts := [Sh64.ctSum, Sh64.ctSumR, ctAwakeS]) (lps := []) (fz := []) (fuel := 10) mix (allOk ⟨Sh64.ctSum_ok, Sh64.ctSumR_ok, ctAwakeS_ok, trivial⟩) Try.func4 (c := bodyOf Try.f4) (by kernel_rfl) (fun _ _ g hg => by cases hg) (args := [.one (.str data)]) rfl ?_ (fun k hk => hk.elim) ⟨rfl, trivial⟩
  rw [hr]
  refine ⟨fun _ => rfl, fun hb => ?_⟩
  have hd : data.size ≤ 1099511627776 := by
    have := of_decide_eq_false hb
    omega
  exact ⟨hd, hd, TT.br_t (by rw [Sh64.sm_eq hd]; exact beq_self_eq_true _) rfl⟩
end Go.Proofs.Ytihmhnfjdkkbgaa
