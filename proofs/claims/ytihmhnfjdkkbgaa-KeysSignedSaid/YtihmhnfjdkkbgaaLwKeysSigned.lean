/- Whatever was said, and who says it: both sides sign the same bytes; no condition (a text of more than 1000 bytes is not looked at by the statement). -/
import Derived.Test.YtihmhnfjdkkbgaaRows
import Derived.Test.YtihmhnfjdkkbgaaRxM
import Derived.Test.YtihmhnfjdkkbgaaRxQ
import Derived.Carry
import Derived.Test.YtihmhnfjdkkbgaaKyc
noncomputable section
namespace Go.Proofs.Ytihmhnfjdkkbgaa
open Go.ChangeMaps Go Go.ChangeShapes Go.WideShapes Go.ChangeAt Go.RowKit RX
theorem Try.own : ownKnob Try.prog.godebug = none := by kernel_rfl
theorem Try.laidOut : laidOutB Try.prog = true := by kernel_rfl
set_option maxRecDepth 100000 in
theorem keysSigned_lifted (os : Os) (started : os.Started) (H : Type) (enc : TypeId × Value → H) :
    ReturnsInHanded {} Try.checked os 22 .any (Rows.keysSignedSpec.pre6 enc Try.prog Try.f22 Rows.keysSignedRow.domain false) (Rows.keysSignedSpec.post enc Try.prog Try.f22 false true false false) := by
  refine returnsInHanded_of_change (C := Try.checked) Try.own started (by kernel_rfl) Try.func22
    (ChangeSpec.witness6 (enc := enc) (C := Try.checked) false ⟨#[], #[.string .empty, .bool false], []⟩ 8 (by kernel_rfl) (by kernel_rfl) (by kernel_rfl) (by kernel_rfl)) ?_
  intro W base args ds gs before hval0 hW hcnd _
  have hval : ∀ (j : Nat) t v, Try.f22.params[j]? = some t → args[j]? = some v → Value.okWide Try.prog W .any base t v := hval0
  have hW' := hW
  obtain ⟨p, q, hA0, hV, rfl, hfz, hnd⟩ := hW
  have hA : DataW.TrodAll enc Try.prog W 0 (fun _ => true) true Try.f22.params.toList args.toList ds p := hA0
  rw [Try.params22] at hA hval
  obtain ⟨v0, v1, d0, d1, p0, p1, rfl, rfl, rfl, h0, h1⟩ := trodAll_two hA
  obtain ⟨rfl, rfl⟩ := trodVars_none hV
  obtain ⟨xa, rfl, rfl, rfl, wxa⟩ := open_string Try.underlying9 (hval 0 9 v0 rfl rfl) h0
  obtain ⟨xb, rfl, rfl, rfl⟩ := open_bool Try.underlying4 (hval 1 4 v1 rfl rfl) h1
  clear hA0 hval0
  simp only [List.append_nil] at hW'
  refine (keysSigned_calls xa xb W).mono fun e W' ⟨v, he, hb, hv⟩ => ?_
  subst he
  have ev : v = .bool true := hv
  subst ev
  exact ⟨_, rfl, post_plain hW' (fun _ _ _ => trodAll_mk1 (shut_bool Try.underlying4 _)) (fun sp => trodAll_mk2 (shut_string Try.underlying9 wxa) (shut_bool Try.underlying4 xb)) (fun _ => rfl) (hb.frame _) (ok_one (by kernel_rfl) rfl (okWide_bool_mk Try.underlying4 _))⟩
theorem keysSigned_holds : Rows.KeysSignedSaid :=
  OpenClaim.holds_of_wide 22 Try.f22 rfl rfl rfl rfl rfl rfl rfl ⟨rfl, rfl, rfl, rfl, rfl⟩ rfl rfl rfl rfl rfl (by kernel_rfl) Try.func22 (by change joinedFacts Try.prog _ _ _ _ = true; unfold joinedFacts; rw [Try.enters, Try.noFinals, Try.made]; kernel_rfl)
    (of_decide_eq_true (by kernel_rfl)) (by unfold Func.isWrapper; first | (rw [if_pos (by decide +kernel)]; kernel_rfl) | (rw [if_neg (by decide +kernel)]; exact ⟨rfl, rfl⟩))
    (fun os started H enc _ => keysSigned_lifted os started H enc)
end Go.Proofs.Ytihmhnfjdkkbgaa
