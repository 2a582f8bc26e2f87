/- The ladder: Share and Public of any two texts, on both sides; the examples. -/
import Derived.Test.YtkkekjkfafnahaaLdf
import Derived.Test.YtkkekjkfafnahaaLdg
noncomputable section
namespace Go.Proofs.Ytkkekjkfafnahaa.Fd
open Go Go.RowKit RX
set_option linter.unusedSimpArgs false
set_option maxRecDepth 1000000
def okK (a p : ByteArray) : Bool := decide (a.size = 32 ∧ p.size = 32)
def zK (a p : ByteArray) : Bool := zL (scalarL a) (uL p)
def sK (a p : ByteArray) : ByteArray := BF (quotL (scalarL a) (uL p))
def keyS (a p : ByteArray) : ByteArray := bif okK a p then (bif zK a p then .empty else sK a p) else .empty
def keyE (a p : ByteArray) : Int := bif okK a p then (bif zK a p then 21 else 0) else 21
def shareT (a p : ByteArray) : TV := .tup [.one (.str (keyS a p)), .one (.int .i64 (keyE a p))]
theorem shareT_yes {a p : ByteArray} (h : a.size = 32 ∧ p.size = 32) : shareT a p = zS (zK a p) (sK a p) := by
  unfold shareT keyS keyE zS
  rw [show okK a p = true from decide_eq_true h]
  rfl
theorem shareT_no {a p : ByteArray} (h : ¬ (a.size = 32 ∧ p.size = 32)) : shareT a p = noKey := by
  unfold shareT keyS keyE noKey
  rw [show okK a p = false from decide_eq_false h]
  rfl
def ctShareP : Ct := shCt 42 [.str, .str] fun ds => ([], shareT (dS ds 0) (dS ds 1))
theorem ctShareP_ok : CtOk Try.prog ctShareP := caseCt fun ds h _ => match ds, h with
  | [.S a, .S p], h => by
    by_cases hs : a.size = 32 ∧ p.size = 32
    · exact ⟨_, _, viewArgs [.strn 32, .strn 32] [.S a, .S p] ⟨hs.1, hs.2, trivial⟩, [.S a, .S p], ctShareL_ok, rfl, fun β vs r => viewArgs_is (shs := [.strn 32, .strn 32]) _ β vs r, by simp, congrArg TV.norm (shareT_yes hs)⟩
    · exact ⟨_, _, [.one (.str a), .one (.str p)], [.S a, .S p], ctShareNoL_ok, rfl, fun β vs r => r, (fun q hq => by rw [List.mem_singleton.1 hq]; exact hs), congrArg TV.norm (shareT_no hs)⟩
def ctShareQ : Ct := shCt 43 [.str, .str] fun ds => ([], shareT (dS ds 0) (dS ds 1))
theorem ctShareQ_ok : CtOk Try.prog ctShareQ := caseCt fun ds h _ => match ds, h with
  | [.S a, .S p], h => by
    by_cases hs : a.size = 32 ∧ p.size = 32
    · exact ⟨_, _, viewArgs [.strn 32, .strn 32] [.S a, .S p] ⟨hs.1, hs.2, trivial⟩, [.S a, .S p], ctShareR_ok, rfl, fun β vs r => viewArgs_is (shs := [.strn 32, .strn 32]) _ β vs r, by simp, congrArg TV.norm ((shareT_yes hs).trans (share_eq a hs.2).symm)⟩
    · exact ⟨_, _, [.one (.str a), .one (.str p)], [.S a, .S p], ctShareNoR_ok, rfl, fun β vs r => r, (fun q hq => by rw [List.mem_singleton.1 hq]; exact hs), congrArg TV.norm (shareT_no hs)⟩
/-! ### The public key -/
def nineS : ByteArray := BF (smallF 9)
def nineR : ByteArray := (⟨#[9]⟩ : ByteArray) ++ strOfNums (List.replicate 31 0)
theorem nine_eq : nineR = nineS := by
  unfold nineS
  rw [BF_ok (smallF_ok (n := 9) (by decide))]
  decide +kernel
theorem nineS_size : nineS.size = 32 := by rw [← nine_eq]; decide +kernel
def ctPublicP : Ct := shCt 45 [.str] fun ds => ([], shareT (dS ds 0) nineS)
theorem ctPublicP_ok : CtOk Try.prog ctPublicP :=
  oneCt_ok (cts := [ctSmallF, ctBytesF, ctShareP]) (fz := []) (fuel := 10) mix (allOk ⟨ctSmallF_ok, ctBytesF_ok, ctShareP_ok, trivial⟩) Try.func45 (by kernel_rfl) (by kernel_rfl) (fun _ => rfl) fun ds h _ => match ds, h with
    | [.S _], h => ⟨_, viewArgs_is h, [], by kernel_rfl, by simp⟩
def ctPublicQ : Ct := shCt 46 [.str] fun ds => ([], shareT (dS ds 0) nineR)
theorem ctPublicQ_ok : CtOk Try.prog ctPublicQ :=
  oneCt_ok (cts := [ctShareQ]) (fz := []) (fuel := 10) mix (allOk ⟨ctShareQ_ok, trivial⟩) Try.func46 (by kernel_rfl) (by kernel_rfl) (fun _ => rfl) fun ds h _ => match ds, h with
    | [.S _], h => ⟨_, viewArgs_is h, [], by kernel_rfl, by simp⟩
/-! ### The examples -/
theorem fillS_size (b : Int) : (fillS b).size = 32 := by unfold fillS; rw [strOfNums_size]; simp
def ctFill : Ct := shCt 78 [.num .u8] fun ds => ([], .sv (.one (.strn (fillS (dI ds 0)) 32 (fillS_size _))))
theorem ctFill_ok : CtOk Try.prog ctFill :=
  oneCt_ok (cts := []) (fz := []) (fuel := 40) mix (by simp) Try.func78 (by kernel_rfl) (by kernel_rfl) (fun _ => rfl) fun ds h _ => match ds, h with
    | [.I _], h => ⟨_, viewArgs_is h, [], by kernel_rfl, by simp⟩
theorem key17 : shareT (fillS 17) nineS = .tup [.one (.str (strI 8706964969151656852030624105552692079253703992755607796162724326647234842235)), .one (.int .i64 0)] := by
  have hs : (fillS 17).size = 32 ∧ nineS.size = 32 := ⟨fillS_size _, nineS_size⟩
  have hv : valS (maskS nineS) 32 = 9 := by rw [← nine_eq]; decide +kernel
  have hl : Rep (quotL (scalarL (fillS 17)) (uL nineS)) (qV (scalarL (fillS 17)) (valS (maskS nineS) 32)) := quotL_ok (scalarL_len _) (toLen_toLen 5 _) (uL_ok _)
  have hq : qV (scalarL (fillS 17)) (valS (maskS nineS) 32) % pF = 8706964969151656852030624105552692079253703992755607796162724326647234842235 := by
    rw [hv]
    have := quotN_ok (scalarL (fillS 17)) (x := 9) (u := 9) rfl
    rw [quot17] at this
    exact this
  rw [shareT_yes hs, zK, sK, zL_ok hl, BF_ok hl, hq]
  rfl
theorem key1 : shareT (fillS 1) (fillS 0) = noKey := by
  have hs : (fillS 1).size = 32 ∧ (fillS 0).size = 32 := ⟨fillS_size _, fillS_size _⟩
  have hv : valS (maskS (fillS 0)) 32 = 0 := by decide +kernel
  have hl : Rep (quotL (scalarL (fillS 1)) (uL (fillS 0))) (qV (scalarL (fillS 1)) (valS (maskS (fillS 0)) 32)) := quotL_ok (scalarL_len _) (toLen_toLen 5 _) (uL_ok _)
  have hq : qV (scalarL (fillS 1)) (valS (maskS (fillS 0)) 32) % pF = 0 := by
    rw [hv]
    have := quotN_ok (scalarL (fillS 1)) (x := 0) (u := 0) rfl
    rw [quot1] at this
    exact this
  rw [shareT_yes hs, zK, sK, zL_ok hl, BF_ok hl, hq]
  rfl
end Go.Proofs.Ytkkekjkfafnahaa.Fd
