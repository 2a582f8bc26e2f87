/- The ladder: both sides' Share answer the same; texts of other sizes. -/
import Derived.Test.YtkkekjkfafnahaaLde
import Derived.Test.YtkkekjkfafnahaaLds
noncomputable section
namespace Go.Proofs.Ytkkekjkfafnahaa.Fd
open Go Go.RowKit RX
set_option linter.unusedSimpArgs false
theorem uL_ok (p : ByteArray) : Rep (uL p) (valS (maskS p) 32) := (ofF_ok _).toLen
theorem uR_ok {p : ByteArray} (h : p.size = 32) : Rep16 (uR p) (valS (maskS p) 32) := by rw [mask_eq h]; exact ofR_ok _
theorem share_eq (s : ByteArray) {p : ByteArray} (h : p.size = 32) : zS (zR (scalarR s) (uR p)) (BR (quotR (scalarR s) (uR p))) = zS (zL (scalarL s) (uL p)) (BF (quotL (scalarL s) (uL p))) := by
  have hl : Rep (quotL (scalarL s) (uL p)) (qV (scalarL s) (valS (maskS p) 32)) := quotL_ok (scalarL_len s) (toLen_toLen 5 _) (uL_ok p)
  have hr : Rep16 (quotR (scalarL s) (uR p)) (qV (scalarL s) (valS (maskS p) 32)) := quotR_ok (scalarL_len s) (uR_ok h)
  rw [← scalar_eq, zR_ok hr, zL_ok hl, BR_ok hr, BF_ok hl]
def ctShareNoL : Ct := shCt 42 [.str, .str] fun ds => ([¬ ((dS ds 0).size = 32 ∧ (dS ds 1).size = 32)], noKey)
theorem noKey_two {a b : ByteArray} {X : TT} (h : ¬ (a.size = 32 ∧ b.size = 32)) : TT.wp (.br ((a.size : Int) != 32) (.leaf noKey) (.br ((b.size : Int) != 32) (.leaf noKey) X)) (fun x => x = noKey) :=
  TT.br_e (fun _ => rfl) fun h1 => TT.br_e (fun _ => rfl) fun h2 => (h (by simp at h1 h2; omega)).elim
theorem ctShareNoL_ok : CtOk Try.prog ctShareNoL :=
  runCt_ok (cts := []) (lps := []) (fz := []) (fuel := 0) mix (by simp) Try.func42 (c := bodyOf Try.f42) (by kernel_rfl) (by kernel_rfl) (fun _ _ g hg => by cases hg) (fun _ => rfl) fun ds h hn => match ds, h, hn with
    | [.S a, .S b], h, hn => ⟨_, viewArgs_is h, by
      have hr : runC Try.prog [] [] [] 0 Try.f42 (bodyOf Try.f42) (viewArgs [.str, .str] [.S a, .S b] h) = .br ((a.size : Int) != 32) (.leaf noKey) (.br ((b.size : Int) != 32) (.leaf noKey) .stuck) := by kernel_rfl
      rw [hr]
      exact noKey_two (hn _ (List.mem_singleton.2 rfl))⟩
def ctShareNoR : Ct := shCt 43 [.str, .str] fun ds => ([¬ ((dS ds 0).size = 32 ∧ (dS ds 1).size = 32)], noKey)
theorem ctShareNoR_ok : CtOk Try.prog ctShareNoR :=
  runCt_ok (cts := []) (lps := []) (fz := []) (fuel := 0) mix (by simp) Try.func43 (c := bodyOf Try.f43) (by kernel_rfl) (by kernel_rfl) (fun _ _ g hg => by cases hg) (fun _ => rfl) fun ds h hn => match ds, h, hn with
    | [.S a, .S b], h, hn => ⟨_, viewArgs_is h, by
      have hr : runC Try.prog [] [] [] 0 Try.f43 (bodyOf Try.f43) (viewArgs [.str, .str] [.S a, .S b] h) = .br ((a.size : Int) != 32) (.leaf noKey) (.br ((b.size : Int) != 32) (.leaf noKey) (.need ((0 : Int) ≤ 0) (.need ((0 : Int) < ((strNums a).length : Int)) (.need (Int.toNat 0 < (strNums a).length) (.need ((0 : Int) ≤ 0) (.need ((0 : Int) < ((strNums a).length : Int)) .stuck)))))) := by kernel_rfl
      rw [hr]
      exact noKey_two (hn _ (List.mem_singleton.2 rfl))⟩
end Go.Proofs.Ytkkekjkfafnahaa.Fd
