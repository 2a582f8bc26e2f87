/- The walk of the statements of layer 10. -/
import Derived.Test.YtoglkmebhcnbnaaScm
noncomputable section
namespace Go.Proofs.Ytoglkmebhcnbnaa
open Go Go.RowKit RX
def noByte : SV := .one .any
def awakeTree : TT := .need (orderS.size + (smallS 0).size ≤ 9223372036854775807)
  (.br (errB (has 32 (smallS 1) && has 32 (smallS 1) && has 32 (smallS 1)) == 0)
    (.br ((strB (has 32 (smallS 1) && has 32 (smallS 1) && has 32 (smallS 1)) (mulAddP (smallS 1) (smallS 1) (smallS 1))).toList == (smallS 2).toList)
      (.br (errB (has 64 (orderS ++ smallS 0)) == 0)
        (.br ((strB (has 64 (orderS ++ smallS 0)) (wideP (orderS ++ smallS 0))).toList == (smallS 0).toList)
          (.br (!(has 32 orderS && rightP orderS)) (.leaf (bool1 (has 32 (smallS 9) && rightP (smallS 9)))) (.leaf (bool1 false)))
          (.leaf (bool1 false)))
        (.leaf (bool1 false)))
      (.leaf (bool1 false)))
    (.leaf (bool1 false)))
def ctAwake : Ct := shCt 11 [] fun _ => ([], bool1 true)
set_option maxRecDepth 1000000 in
theorem awakeTree_wp : awakeTree.wp (fun x => x = bool1 true) := by
  have h1 : (errB (has 32 (smallS 1) && has 32 (smallS 1) && has 32 (smallS 1)) == 0) = true := by kernel_rfl
  have h2 : ((strB (has 32 (smallS 1) && has 32 (smallS 1) && has 32 (smallS 1)) (mulAddP (smallS 1) (smallS 1) (smallS 1))).toList == (smallS 2).toList) = true := by kernel_rfl
  have h3 : (errB (has 64 (orderS ++ smallS 0)) == 0) = true := by kernel_rfl
  have h4 : ((strB (has 64 (orderS ++ smallS 0)) (wideP (orderS ++ smallS 0))).toList == (smallS 0).toList) = true := by kernel_rfl
  have h5 : (!(has 32 orderS && rightP orderS)) = true := by kernel_rfl
  have h6 : (has 32 (smallS 9) && rightP (smallS 9)) = true := by kernel_rfl
  have h0 : orderS.size + (smallS 0).size ≤ 9223372036854775807 := of_decide_eq_true (by kernel_rfl)
  refine ⟨h0, fun _ => ⟨fun _ => ⟨fun _ => ⟨fun _ => ⟨fun _ => ?_, fun h => ?_⟩, fun h => ?_⟩, fun h => ?_⟩, fun h => ?_⟩, fun h => ?_⟩
  · show bool1 _ = bool1 true
    rw [h6]
  · rw [h5] at h; cases h
  · rw [h4] at h; cases h
  · rw [h3] at h; cases h
  · rw [h2] at h; cases h
  · rw [h1] at h; cases h
theorem ctAwake_ok : CtOk Try.prog ctAwake :=
  runCt_ok (cts := [ctWideP, ctMulAddPS, ctRightP, ctSmall, ctOrderS]) (lps := []) (fz := []) (fuel := 10) mix (allOk ⟨ctWideP_ok, ctMulAddPS_ok, ctRightP_ok, ctSmall_ok, ctOrderS_ok, trivial⟩) Try.func11 (c := bodyOf Try.f11) (by kernel_rfl) (by kernel_rfl) (fun _ _ g hg => by cases hg) (fun _ => rfl) fun ds h _ => match ds, h with
    | [], h => ⟨_, viewArgs_is h, by
      have hr : runC Try.prog [ctWideP, ctMulAddPS, ctRightP, ctSmall, ctOrderS] [] [] 10 Try.f11 (bodyOf Try.f11) (viewArgs [] [] h) = awakeTree := by kernel_rfl
      rw [hr]
      exact awakeTree_wp⟩
theorem right_calls (s : ByteArray) (w : World) : Calls Try.prog 4 ⟨[.string s]⟩ w (RetT w noaway (bool1 true)) := by
  have hr : runC Try.prog [ctRightP, ctRightR, ctAwake] [] [] 10 Try.f4 (bodyOf Try.f4) [.one (.str s)] =
      .br ((has 32 s && rightP s) == (has 32 s && rightR s)) (.leaf (bool1 true)) (.leaf (bool1 false)) := by kernel_rfl
  refine calls_of_runT (cts := [ctRightP, ctRightR, ctAwake]) (lps := []) (fz := []) (fuel := 10) mix (allOk ⟨ctRightP_ok, ctRightR_ok, ctAwake_ok, trivial⟩) Try.func4 (c := bodyOf Try.f4) (by kernel_rfl) (fun _ _ g hg => by cases hg) (args := [.one (.str s)]) rfl ?_ (fun k hk => hk.elim) ⟨rfl, trivial⟩
  rw [hr]
  exact ⟨fun _ => rfl, fun h => by rw [rightEq] at h; simp at h⟩
end Go.Proofs.Ytoglkmebhcnbnaa
