/- Whatever the secret: both sides have the same secret behind it; no condition (a secret of more than 1000 bytes is not looked at by the statement). -/
import Derived.Test.YtihmhnfjdkkbgaaRows
import Derived.Test.YtihmhnfjdkkbgaaRxM
import Derived.Test.YtihmhnfjdkkbgaaRxQ
import Derived.Carry
import Derived.Test.YtihmhnfjdkkbgaaKyc
noncomputable section
namespace Go.Proofs.Ytihmhnfjdkkbgaa
open Go.ChangeMaps Go Go.ChangeShapes Go.WideShapes Go.ChangeAt Go.RowKit RX
theorem Try.own : ownKnob Try.prog.godebug = none := by kernel_rfl
theorem Try.laidOut : laidOutB Try.prog = true := by kernel_rfl
set_option maxRecDepth 100000 in
theorem keysNext_lifted (os : Os) (started : os.Started) (H : Type) (enc : TypeId × Value → H) :
    ReturnsInHanded {} Try.checked os 18 .any (Rows.keysNextSpec.pre6 enc Try.prog Try.f18 Rows.keysNextRow.domain false) (Rows.keysNextSpec.post enc Try.prog Try.f18 false true false false) := by
  refine returnsInHanded_of_change (C := Try.checked) Try.own started (by kernel_rfl) Try.func18
    (ChangeSpec.witness6 (enc := enc) (C := Try.checked) false ⟨#[], #[.string .empty], []⟩ 8 (by kernel_rfl) (by kernel_rfl) (by kernel_rfl) (by kernel_rfl)) ?_
  intro W base args ds gs before hval0 hW hcnd _
  have hval : ∀ (j : Nat) t v, Try.f18.params[j]? = some t → args[j]? = some v → Value.okWide Try.prog W .any base t v := hval0
  have hW' := hW
  obtain ⟨p, q, hA0, hV, rfl, hfz, hnd⟩ := hW
  have hA : DataW.TrodAll enc Try.prog W 0 (fun _ => true) true Try.f18.params.toList args.toList ds p := hA0
  rw [Try.params18] at hA hval
  obtain ⟨v0, d0, rfl, rfl, h0⟩ := trodAll_one hA
  obtain ⟨rfl, rfl⟩ := trodVars_none hV
  obtain ⟨xa, rfl, rfl, rfl, wxa⟩ := open_string Try.underlying9 (hval 0 9 v0 rfl rfl) h0
  clear hA0 hval0
  simp only [List.append_nil] at hW'
  refine (keysNext_calls xa W).mono fun e W' ⟨v, he, hb, hv⟩ => ?_
  subst he
  have ev : v = .bool true := hv
  subst ev
  exact ⟨_, rfl, post_plain hW' (fun _ _ _ => trodAll_mk1 (shut_bool Try.underlying4 _)) (fun sp => trodAll_mk1 (shut_string Try.underlying9 wxa)) (fun _ => rfl) (hb.frame _) (ok_one (by kernel_rfl) rfl (okWide_bool_mk Try.underlying4 _))⟩
theorem keysNext_holds : Rows.KeysNextSaid :=
  OpenClaim.holds_of_wide 18 Try.f18 rfl rfl rfl rfl rfl rfl rfl ⟨rfl, rfl, rfl, rfl, rfl⟩ rfl rfl rfl rfl rfl (by kernel_rfl) Try.func18 (by change joinedFacts Try.prog _ _ _ _ = true; unfold joinedFacts; rw [Try.enters, Try.noFinals, Try.made]; kernel_rfl)
    (of_decide_eq_true (by kernel_rfl)) (by unfold Func.isWrapper; first | (rw [if_pos (by decide +kernel)]; kernel_rfl) | (rw [if_neg (by decide +kernel)]; exact ⟨rfl, rfl⟩))
    (fun os started H enc _ => keysNext_lifted os started H enc)
end Go.Proofs.Ytihmhnfjdkkbgaa
