/- The statements of layer 11. -/
import Derived.Test.YtkkekjkfafnahaaPth
noncomputable section
namespace Go.Proofs.Ytkkekjkfafnahaa.Fd
open Go Go.RowKit RX
set_option linter.unusedSimpArgs false
set_option maxRecDepth 1000000
/-- Whether all of these hold, one after another. -/
def andT : List Prop → List Bool → TT
  | acc, [] => needT acc yes
  | acc, b :: r => .br b (andT (acc ++ [b = true]) r) (needT (acc ++ [b = false]) no)
theorem andT_wp : ∀ {l : List Bool} {acc : List Prop}, (∀ p ∈ acc, p) → (∀ b ∈ l, b = true) → (andT acc l).wp (fun x => x = bool1 true)
  | [], _, ha, _ => needT_wp ha rfl
  | b :: r, acc, ha, hl => TT.br_t (hl b (List.mem_cons_self ..)) (andT_wp (fun p hp => by
      rcases List.mem_append.1 hp with hp | hp
      · exact ha p hp
      · rw [List.mem_singleton.1 hp]; exact hl b (List.mem_cons_self ..)) fun c hc => hl c (List.mem_cons_of_mem _ hc))
theorem all1 {a : Bool} (h1 : a = true) : ∀ b ∈ [a], b = true := by
  intro b hb
  rw [List.mem_singleton.1 hb]; exact h1
theorem all2' {a c : Bool} (h1 : a = true) (h2 : c = true) : ∀ b ∈ [a, c], b = true := by
  intro b hb
  rcases List.mem_cons.1 hb with rfl | hb
  · exact h1
  · exact all1 h2 b hb
theorem all3 {a c d : Bool} (h1 : a = true) (h2 : c = true) (h3 : d = true) : ∀ b ∈ [a, c, d], b = true := by
  intro b hb
  rcases List.mem_cons.1 hb with rfl | hb
  · exact h1
  · exact all2' h2 h3 b hb
def eqS (s t : ByteArray) : Bool := s.toList == t.toList
theorem eqS_t {s t : ByteArray} (h : s = t) : eqS s t = true := by rw [h]; exact beq_self_eq_true _
def byP (L : List Int) : ByteArray := bytesN 32 (bytesP (RX.toLen 20 L))
def byQ (p : R4) : ByteArray := bytesN 32 (bytesPR (t4 p))
theorem byP_ok {L : List Int} {v : PV} (h : IsP L v) : byP L = byV v := bytesP_ok (toLen20_ok h)
theorem byQ_ok {p : R4} {v : PV} (h : IsQ p v) : byQ p = byV v := bytesPR_ok (t4_ok h)
def ctSmallP : Ct := shCt 58 [.num .u8] fun ds => ([], .sv (.one (.strn (smallS (dI ds 0)) 32 (smallS_size _))))
theorem ctSmallP_ok : CtOk Try.prog ctSmallP :=
  oneCt_ok (cts := []) (fz := []) (fuel := 40) mix (by simp) Try.func58 (by kernel_rfl) (by kernel_rfl) (fun _ => rfl) fun ds h _ => match ds, h with
    | [.I _], h => ⟨_, viewArgs_is h, [], by kernel_rfl, by simp⟩
/-! ### The examples -/
def ctAwakeP : Ct := shCt 53 [] fun _ => ([], bool1 true)
theorem ptE_ok {s : ByteArray} (h : s.size = 32) (hb : badP s = false) : ptE s = 0 := by
  unfold ptE
  rw [decide_eq_true h, hb]
  rfl
theorem ptE_bad {s : ByteArray} (h : s.size = 32) (hb : badP s = true) : ptE s = 21 := by
  unfold ptE
  rw [decide_eq_true h, hb]
  rfl
theorem ptA_yes {s : ByteArray} (h : s.size = 32) (hb : badP s = false) : ptA s = ptV s := by unfold ptA; rw [if_pos ⟨h, hb⟩]
theorem base_by : byP (ptLP baseS) = baseS := by
  rw [byP_ok (ptLP_ok _), ptA_yes baseS_size base_ok, back_ok baseS_size base_ok]
theorem ctAwakeP_ok : CtOk Try.prog ctAwakeP :=
  runCt_ok (cts := [ctPtOf, ctBytesP, ctBaseP, ctSmallP]) (lps := []) (fz := []) (fuel := 10) mix (allOk ⟨ctPtOf_ok, ctBytesP_ok, ctBaseP_ok, ctSmallP_ok, trivial⟩) Try.func53 (c := bodyOf Try.f53) (by kernel_rfl) (by kernel_rfl) (fun _ _ g hg => by cases hg) (fun _ => rfl) fun ds h _ => match ds, h with
    | [], h => ⟨_, viewArgs_is h, by
      have hr : runC Try.prog [ctPtOf, ctBytesP, ctBaseP, ctSmallP] [] [] 10 Try.f53 (bodyOf Try.f53) (viewArgs [] [] h) =
          .br (sbyte (byP (ptLP baseS)) 0 == 88) (.br (sbyte (byP (ptLP baseS)) 1 == 102) (.br (ptE (smallS ((0 : Nat) : Int)) == 0) (.leaf (bool1 (ptE (smallS ((2 : Nat) : Int)) == 21))) no) no) no := by kernel_rfl
      have e0 : ptE (smallS ((0 : Nat) : Int)) = 0 := ptE_ok (smallS_size _) small0_ok
      have e2 : ptE (smallS ((2 : Nat) : Int)) = 21 := ptE_bad (smallS_size _) small2_bad
      rw [hr, base_by, base_is, e0, e2]
      exact TT.br_t (by decide +kernel) (TT.br_t (by decide +kernel) (TT.br_t (beq_self_eq_true _) rfl))⟩
/-! ### Both sides -/
def ctsL11 : List Ct := [ctPtOf, ctPtOfQ, ctBytesP, ctBytesPR, ctNegP, ctNegR, ctAddP, ctAddPR, ctMulP, ctMulQ, ctBaseP, ctBaseQ, ctZeroP, ctSmallP, ctAwakeP]
theorem ctsL11_ok : ∀ c ∈ ctsL11, CtOk Try.prog c := allOk ⟨ctPtOf_ok, ctPtOfQ_ok, ctBytesP_ok, ctBytesPR_ok, ctNegP_ok, ctNegR_ok, ctAddP_ok, ctAddPR_ok, ctMulP_ok, ctMulQ_ok, ctBaseP_ok, ctBaseQ_ok, ctZeroP_ok, ctSmallP_ok, ctAwakeP_ok, trivial⟩
def bytesB (s : ByteArray) : Bool := eqS (byP (ptLP s)) (byQ (ptRQ s))
def negB (s : ByteArray) : Bool := eqS (byP (negP (RX.toLen 20 (ptLP s)))) (byQ (negR (t4 (ptRQ s))))
theorem bytesB_ok (s : ByteArray) : bytesB s = true := eqS_t (by rw [byP_ok (ptLP_ok s), byQ_ok (ptRQ_ok s)])
theorem negB_ok (s : ByteArray) : negB s = true := eqS_t (by rw [byP_ok (negP_ok (toLen20_ok (ptLP_ok s))), byQ_ok (negR_ok (t4_ok (ptRQ_ok s)))])
theorem pointReads_calls (s : ByteArray) (w : World) : Calls Try.prog 19 ⟨[.string s]⟩ w (RetT w noaway (bool1 true)) := by
  have hr : runC Try.prog ctsL11 [] [] 10 Try.f19 (bodyOf Try.f19) [.one (.str s)] = andT [] [ptE s == ptE s, bytesB s, negB s] := by kernel_rfl
  refine calls_of_runT (cts := ctsL11) (lps := []) (fz := []) (fuel := 10) mix ctsL11_ok Try.func19 (c := bodyOf Try.f19) (by kernel_rfl) (fun _ _ g hg => by cases hg) (args := [.one (.str s)]) rfl ?_ (fun k hk => hk.elim) ⟨rfl, trivial⟩
  rw [hr]
  exact andT_wp (fun _ h => by cases h) (all3 (beq_self_eq_true _) (bytesB_ok s) (negB_ok s))
def neg2B (s : ByteArray) : Bool := eqS (byP (negP (RX.toLen 20 (negP (RX.toLen 20 (ptLP s)))))) (byP (ptLP s))
theorem neg2B_ok (s : ByteArray) : neg2B s = true := eqS_t (by
  have h := ptLP_ok s
  rw [byP_ok h, byP_ok (negP_ok (toLen20_ok (negP_ok (toLen20_ok h))))]
  have e : negV (negV (ptA s)) = ptA s := by
    unfold negV
    simp only [show ∀ a : Int, 0 - (0 - a) = a from fun a => by omega]
  rw [e])
theorem pointNeg_calls (s : ByteArray) (w : World) : Calls Try.prog 20 ⟨[.string s]⟩ w (RetT w noaway (bool1 true)) := by
  have hr : runC Try.prog ctsL11 [] [] 10 Try.f20 (bodyOf Try.f20) [.one (.str s)] = andT [] [negB s, neg2B s] := by kernel_rfl
  refine calls_of_runT (cts := ctsL11) (lps := []) (fz := []) (fuel := 10) mix ctsL11_ok Try.func20 (c := bodyOf Try.f20) (by kernel_rfl) (fun _ _ g hg => by cases hg) (args := [.one (.str s)]) rfl ?_ (fun k hk => hk.elim) ⟨rfl, trivial⟩
  rw [hr]
  exact andT_wp (fun _ h => by cases h) (all2' (negB_ok s) (neg2B_ok s))
def addB (s t : ByteArray) : Bool := eqS (byP (addP (RX.toLen 20 (ptLP s)) (RX.toLen 20 (ptLP t)) kP)) (byQ (togR (t4 (t4 (ptRQ s))) (t4 (t4 (ptRQ t))) (t16 kR)))
theorem addB_ok (s t : ByteArray) : addB s t = true := eqS_t (by
  rw [byP_ok (addP_ok (toLen20_ok (ptLP_ok s)) (toLen20_ok (ptLP_ok t)) kP_ok)]
  exact (byQ_ok (togR_ok (t4_ok (t4_ok (ptRQ_ok s))) (t4_ok (t4_ok (ptRQ_ok t))) kR_ok.toLen)).symm)
theorem pointAdds_calls (s t : ByteArray) (w : World) : Calls Try.prog 21 ⟨[.string s, .string t]⟩ w (RetT w noaway (bool1 true)) := by
  have hr : runC Try.prog ctsL11 [] [] 10 Try.f21 (bodyOf Try.f21) [.one (.str s), .one (.str t)] = andT [] [ptE s == ptE s, ptE t == ptE t, addB s t] := by kernel_rfl
  refine calls_of_runT (cts := ctsL11) (lps := []) (fz := []) (fuel := 10) mix ctsL11_ok Try.func21 (c := bodyOf Try.f21) (by kernel_rfl) (fun _ _ g hg => by cases hg) (args := [.one (.str s), .one (.str t)]) rfl ?_ (fun k hk => hk.elim) ⟨rfl, rfl, trivial⟩
  rw [hr]
  exact andT_wp (fun _ h => by cases h) (all3 (beq_self_eq_true _) (beq_self_eq_true _) (addB_ok s t))
def mulB (L : List Int) (p : R4) (n : ByteArray) : Bool := eqS (byP (mlLP (RX.toLen 20 L) n)) (byQ (mlRQ (t4 p) n))
theorem mulB_ok {L : List Int} {p : R4} {v : PV} (h : IsP L v) (g : IsQ p v) (n : ByteArray) : mulB L p n = true := eqS_t (by
  rw [byP_ok (mlLP_ok (toLen20_ok h) n), byQ_ok (mlRQ_ok (t4_ok g) n)])
def mulAnd (L : List Int) (p : R4) (n : ByteArray) : TT := andT [] [mlE n == mlE n, mulB L p n]
theorem mulAnd_wp {L : List Int} {p : R4} {v : PV} (h : IsP L v) (g : IsQ p v) (n : ByteArray) : (mulAnd L p n).wp (fun x => x = bool1 true) := andT_wp (fun _ h => by cases h) (all2' (beq_self_eq_true _) (mulB_ok h g n))
theorem baseQ_ok : IsQ (ptRQ baseSQ) (ptA baseS) := by rw [baseQ_eq]; exact ptRQ_ok _
theorem pointMuls_calls (s n : ByteArray) (w : World) : Calls Try.prog 23 ⟨[.string s, .string n]⟩ w (RetT w noaway (bool1 true)) := by
  have hr : runC Try.prog ctsL11 [] [500006] 10 Try.f23 (bodyOf Try.f23) [.one (.str s), .one (.str n)] =
      .br (ptE s != ptE s) no (.br (ptE s != 0) (mulAnd (ptLP baseS) (ptRQ baseSQ) n) (mulAnd (ptLP s) (ptRQ s) n)) := by kernel_rfl
  refine calls_of_runT (cts := ctsL11) (lps := []) (fz := [500006]) (fuel := 10) mix ctsL11_ok Try.func23 (c := bodyOf Try.f23) (by kernel_rfl) (fun _ _ g hg => by cases hg) (args := [.one (.str s), .one (.str n)]) rfl ?_ (fun k hk => hk.elim) ⟨rfl, rfl, trivial⟩
  rw [hr]
  exact TT.br_f (bne_self_eq_false _) ⟨fun _ => mulAnd_wp (ptLP_ok baseS) baseQ_ok n, fun _ => mulAnd_wp (ptLP_ok s) (ptRQ_ok s) n⟩
/-! ### Times -/
def tmT (L : List Int) (n : ByteArray) : TT := .br (mlE (smallS 0) != 0) no (.br (!eqS (byP (mlLP (RX.toLen 20 L) (smallS 0))) (smallS 1)) no
  (.br ((n.size : Int) != 32) (.br (mlE n == 1) (.br (eqS (byP (mlLP (RX.toLen 20 L) n)) (smallS 1)) yes no) no) (.br (mlE n == 0) yes no)))
theorem tmT_wp {L : List Int} {v : PV} (h : IsP L v) (n : ByteArray) : (tmT L n).wp (fun x => x = bool1 true) := by
  have e0 : mlE (smallS 0) = 0 := by unfold mlE; rw [decide_eq_true (smallS_size _)]; rfl
  have e1 : byP (mlLP (RX.toLen 20 L) (smallS 0)) = smallS 1 := by
    rw [byP_ok (mlLP_ok (toLen20_ok h) (smallS 0))]
    unfold mlV
    rw [if_pos (smallS_size _)]
    exact times_no small0_bits v 256
  refine TT.br_f (by rw [e0]; rfl) (TT.br_f (by rw [eqS_t e1]; rfl) ⟨fun hb => ?_, fun hb => ?_⟩)
  · have hn : ¬ n.size = 32 := by
      rw [bne_iff_ne] at hb
      omega
    have e2 : mlE n = 1 := by unfold mlE; rw [decide_eq_false hn]; rfl
    have e3 : byP (mlLP (RX.toLen 20 L) n) = smallS 1 := by
      rw [byP_ok (mlLP_ok (toLen20_ok h) n)]
      unfold mlV
      rw [if_neg hn]
      exact byV_one
    exact TT.br_t (by rw [e2]; rfl) (TT.br_t (eqS_t e3) rfl)
  · have hn : n.size = 32 := by
      rw [bne_eq_false_iff_eq] at hb
      omega
    have e2 : mlE n = 0 := by unfold mlE; rw [decide_eq_true hn]; rfl
    exact TT.br_t (by rw [e2]; rfl) rfl
theorem pointTimes_calls (s n : ByteArray) (w : World) : Calls Try.prog 24 ⟨[.string s, .string n]⟩ w (RetT w noaway (bool1 true)) := by
  have hr : runC Try.prog ctsL11 [] [500003] 10 Try.f24 (bodyOf Try.f24) [.one (.str s), .one (.str n)] =
      .br (ptE s != 0) (tmT (ptLP baseS) n) (tmT (ptLP s) n) := by kernel_rfl
  refine calls_of_runT (cts := ctsL11) (lps := []) (fz := [500003]) (fuel := 10) mix ctsL11_ok Try.func24 (c := bodyOf Try.f24) (by kernel_rfl) (fun _ _ g hg => by cases hg) (args := [.one (.str s), .one (.str n)]) rfl ?_ (fun k hk => hk.elim) ⟨rfl, rfl, trivial⟩
  rw [hr]
  exact ⟨fun _ => tmT_wp (ptLP_ok baseS) n, fun _ => tmT_wp (ptLP_ok s) n⟩
/-! ### Laws -/
def lwE (L M : List Int) : TT := andT [] [eqS (byP (addP (RX.toLen 20 L) (RX.toLen 20 M) kP)) (byP (addP (RX.toLen 20 M) (RX.toLen 20 L) kP)), eqS (byP (addP (RX.toLen 20 L) (RX.toLen 20 zero20) kP)) (byP L), eqS (byP zero20) (smallS 1)]
theorem lwE_wp {L M : List Int} {v u : PV} (h : IsP L v) (g : IsP M u) (hz : v.z = 1) : (lwE L M).wp (fun x => x = bool1 true) := by
  refine andT_wp (fun _ h => by cases h) (all3 (eqS_t ?_) (eqS_t ?_) (eqS_t ?_))
  · rw [byP_ok (addP_ok (toLen20_ok h) (toLen20_ok g) kP_ok), byP_ok (addP_ok (toLen20_ok g) (toLen20_ok h) kP_ok), addV_comm]
  · rw [byP_ok (addP_ok (toLen20_ok h) (toLen20_ok zeroP_ok) kP_ok), byP_ok h, addV_zero hz]
  · rw [byP_ok zeroP_ok, byV_one]
/-- A text, and the point that stands for it: its own, or Base. -/
def lw1 (s : ByteArray) (K : List Int → TT) : TT := .br (ptE s != 0) (.br (!eqS (byP (ptLP s)) (byP zero20)) no (K (ptLP baseS))) (.br (!eqS (byP (ptLP s)) s) no (K (ptLP s)))
theorem ptA_z (s : ByteArray) : (ptA s).z = 1 := by unfold ptA; split <;> rfl
theorem lw1_wp {s : ByteArray} {K : List Int → TT} (hK : ∀ t : ByteArray, (K (ptLP t)).wp (fun x => x = bool1 true)) : (lw1 s K).wp (fun x => x = bool1 true) := by
  by_cases hs : s.size = 32
  · cases hb : badP s
    · have e : byP (ptLP s) = s := by rw [byP_ok (ptLP_ok s), ptA_yes hs hb, back_ok hs hb]
      exact TT.br_f (by rw [ptE_ok hs hb]; rfl) (TT.br_f (by rw [eqS_t e]; rfl) (hK s))
    · have e : byP (ptLP s) = byP zero20 := by
        unfold ptLP
        rw [decide_eq_true hs, hb]
        rfl
      exact TT.br_t (by rw [ptE_bad hs hb]; rfl) (TT.br_f (by rw [eqS_t e]; rfl) (hK baseS))
  · have e : byP (ptLP s) = byP zero20 := by
      unfold ptLP
      rw [decide_eq_false hs]
      rfl
    have e1 : ptE s = 1 := by unfold ptE; rw [decide_eq_false hs]; rfl
    exact TT.br_t (by rw [e1]; rfl) (TT.br_f (by rw [eqS_t e]; rfl) (hK baseS))
theorem pointLaws_calls (s t : ByteArray) (w : World) : Calls Try.prog 22 ⟨[.string s, .string t]⟩ w (RetT w noaway (bool1 true)) := by
  have hr : runC Try.prog ctsL11 [] [500008, 500010, 500011, 500009, 500012] 10 Try.f22 (bodyOf Try.f22) [.one (.str s), .one (.str t)] =
      lw1 s fun L => lw1 t fun M => lwE L M := by kernel_rfl
  refine calls_of_runT (cts := ctsL11) (lps := []) (fz := [500008, 500010, 500011, 500009, 500012]) (fuel := 10) mix ctsL11_ok Try.func22 (c := bodyOf Try.f22) (by kernel_rfl) (fun _ _ g hg => by cases hg) (args := [.one (.str s), .one (.str t)]) rfl ?_ (fun k hk => hk.elim) ⟨rfl, rfl, trivial⟩
  rw [hr]
  exact lw1_wp fun a => lw1_wp fun b => lwE_wp (ptLP_ok a) (ptLP_ok b) (ptA_z a)
end Go.Proofs.Ytkkekjkfafnahaa.Fd
