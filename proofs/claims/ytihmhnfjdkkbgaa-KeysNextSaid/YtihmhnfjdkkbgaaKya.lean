/- The walk of the package keys and of cressetref17: secrets. -/
import Derived.Test.YtihmhnfjdkkbgaaMce
noncomputable section
namespace Go.Proofs.Ytihmhnfjdkkbgaa
open Go Go.RowKit RX Sh
set_option linter.unusedSimpArgs false
set_option maxRecDepth 10000000
/-! ### Runs of which each test is known -/
def TT.pick : TT → Option (List Prop × TV)
  | .leaf tv => some ([], tv)
  | .br b t e => match b with
    | true => TT.pick t
    | false => TT.pick e
  | .need p t => match TT.pick t with
    | some (l, x) => some (p :: l, x)
    | none => none
  | .stuck => none
theorem TT.pick_wp : ∀ {t : TT} {l : List Prop} {z : TV}, TT.pick t = some (l, z) → (∀ p ∈ l, p) → t.wp fun x => x = z
  | .leaf tv, l, z, h, _ => by simp [TT.pick] at h; exact h.2
  | .br true t e, l, z, h, hl => ⟨fun _ => TT.pick_wp (t := t) h hl, fun h => (by cases h)⟩
  | .br false t e, l, z, h, hl => ⟨fun h => (by cases h), fun _ => TT.pick_wp (t := e) h hl⟩
  | .need p t, l, z, h, hl => by
    unfold TT.pick at h
    split at h
    · rename_i l' x h1
      cases h
      exact ⟨hl p (List.mem_cons_self ..), TT.pick_wp h1 fun q hq => hl q (List.mem_cons_of_mem _ hq)⟩
    · cases h
  | .stuck, _, _, h, _ => by cases h
/-! ### Secrets -/
def ctNoughts : Ct := shCt 78 [] fun _ => ([], .sv (.one (.strn z32 32 z32_size)))
theorem ctNoughts_ok : CtOk Try.prog ctNoughts :=
  oneCt_ok (cts := []) (fz := []) (fuel := 40) mix (by simp) Try.func78 (by kernel_rfl) (by kernel_rfl) (fun _ => rfl) fun ds h _ => match ds, h with
    | [], h => ⟨_, viewArgs_is h, [], by kernel_rfl, by simp⟩
def earlyS : ByteArray := mac32 .empty z32
theorem earlyS_size : earlyS.size = 32 := mac32_size _ _
def ctEarly : Ct := shCt 53 [] fun _ => ([], .sv (.one (.strn earlyS 32 earlyS_size)))
theorem ctEarly_ok : CtOk Try.prog ctEarly :=
  oneCt_ok (cts := [ctNoughts, ctExtract]) (fz := []) (fuel := 40) mix (allOk ⟨ctNoughts_ok, ctExtract_ok, trivial⟩) Try.func53 (by kernel_rfl) (by kernel_rfl) (fun _ => rfl) fun ds h _ => match ds, h with
    | [], h => ⟨_, viewArgs_is h, needsM2 .empty z32, by kernel_rfl, by
      intro p hp
      simp only [needsM2, List.mem_cons, List.not_mem_nil, or_false, z32_size] at hp
      rcases hp with rfl | rfl <;> decide⟩
def ctEarlyR : Ct := shCt 54 [] fun _ => ([], .sv (.one (.strn earlyS 32 earlyS_size)))
theorem ctEarlyR_ok : CtOk Try.prog ctEarlyR :=
  oneCt_ok (cts := [ctExtractR]) (fz := []) (fuel := 40) mix (allOk ⟨ctExtractR_ok, trivial⟩) Try.func54 (by kernel_rfl) (by kernel_rfl) (fun _ => rfl) fun ds h _ => match ds, h with
    | [], h => ⟨_, viewArgs_is h, [(ByteArray.empty).size ≤ 549755813888, z32.size ≤ 549755813888], by kernel_rfl, by
      intro p hp
      simp only [List.mem_cons, List.not_mem_nil, or_false, z32_size] at hp
      rcases hp with rfl | rfl <;> decide⟩
def secT (f l s : ByteArray) : TV := lblT f l (Sh32.dgS s) 32
def secOut (ds : List D) : List Prop × TV := ([(dS ds 0).size ≤ 1099511627776, (dS ds 2).size ≤ 1099511627776], secT (dS ds 0) (dS ds 1) (dS ds 2))
theorem sec_needs {f s : ByteArray} (hf : f.size ≤ 1099511627776) (hs : s.size ≤ 1099511627776) : ∀ p ∈ [s.size ≤ 1099511627776, f.size ≤ 1099511627776], p := by
  intro p hp
  simp only [List.mem_cons, List.not_mem_nil, or_false] at hp
  rcases hp with rfl | rfl
  · exact hs
  · exact hf
def ctSecret : Ct := shCt 48 [.str, .str, .str] secOut
theorem ctSecret_ok : CtOk Try.prog ctSecret :=
  oneCt_ok (cts := [ctLabel, Sh32.ctSum]) (fz := []) (fuel := 40) mix (allOk ⟨ctLabel_ok, Sh32.ctSum_ok, trivial⟩) Try.func48 (by kernel_rfl) (by kernel_rfl) (fun _ => rfl) fun ds h hn => match ds, h, hn with
    | [.S f, .S l, .S s], h, hn => ⟨_, viewArgs_is h, [s.size ≤ 1099511627776, f.size ≤ 1099511627776], by kernel_rfl, sec_needs (hn _ (List.mem_cons_self ..)) (hn _ (by simp [secOut, dS]))⟩
def ctSecretR : Ct := shCt 49 [.str, .str, .str] secOut
theorem ctSecretR_ok : CtOk Try.prog ctSecretR :=
  runCtL_ok (cts := [ctLabelR, Sh32.ctSumR]) (fz := []) (fuel := 40) mix (allOk ⟨ctLabelR_ok, Sh32.ctSumR_ok, trivial⟩) Try.func49 (c := bodyOf Try.f49) (by kernel_rfl) (by kernel_rfl) (fun _ => rfl) fun ds h hn => match ds, h, hn with
    | [.S f, .S l, .S s], h, hn => by
      have hs : s.size ≤ 1099511627776 := hn _ (by simp [secOut, dS])
      refine ⟨[], (fun _ _ _ hg => by cases hg), _, viewArgs_is h, ?_⟩
      have hr : runC Try.prog [ctLabelR, Sh32.ctSumR] [] [] 40 Try.f49 (bodyOf Try.f49) (viewArgs [.str, .str, .str] [.S f, .S l, .S s] h) = needT [s.size ≤ 1099511627776, f.size ≤ 1099511627776] (.leaf (lblT f l (Sh32.smS s) 32)) := by kernel_rfl
      rw [hr, Sh32.sm_eq hs]
      exact needT_wp (sec_needs (hn _ (List.mem_cons_self ..)) hs) rfl
theorem lblS_size (k l x : ByteArray) (n : Int) : (lblS k l x n).size ≤ 8160 := by
  unfold lblS
  by_cases c0 : n < 0
  · rw [decide_eq_true c0]; exact Nat.zero_le _
  · rw [decide_eq_false c0, cond_false]
    cases lblBad l x n
    · rw [cond_false]
      unfold expS
      rw [decide_eq_false c0, cond_false]
      by_cases c1 : n > 8160
      · rw [decide_eq_true c1]; exact Nat.zero_le _
      · rw [decide_eq_false c1, cond_false, ByteArray.size_extract]; omega
    · exact Nat.zero_le _
def derW : ByteArray := ⟨#[100, 101, 114, 105, 118, 101, 100]⟩
def derS (f : ByteArray) : ByteArray := lblS f derW (Sh32.dgS .empty) 32
theorem derS_size (f : ByteArray) : (derS f).size ≤ 8160 := lblS_size _ _ _ _
def stepS (f x : ByteArray) : ByteArray := mac32 (derS f) x
theorem stepS_size (f x : ByteArray) : (stepS f x).size = 32 := mac32_size _ _
def stepOut (ds : List D) : List Prop × TV := ([(dS ds 0).size ≤ 1099511627776, (dS ds 1).size ≤ 549755813888], .sv (.one (.strn (stepS (dS ds 0) (dS ds 1)) 32 (stepS_size _ _))))
def ctStep : Ct := shCt 77 [.str, .str] stepOut
theorem ctStep_ok : CtOk Try.prog ctStep :=
  oneCt_ok (cts := [ctSecret, ctExtract]) (fz := []) (fuel := 40) mix (allOk ⟨ctSecret_ok, ctExtract_ok, trivial⟩) Try.func77 (by kernel_rfl) (by kernel_rfl) (fun _ => rfl) fun ds h hn => match ds, h, hn with
    | [.S f, .S x], h, hn => ⟨_, viewArgs_is h, [f.size ≤ 1099511627776, (ByteArray.empty).size ≤ 1099511627776, (derS f).size ≤ 1099511627776, x.size ≤ 549755813888], by kernel_rfl, by
      have h1 : f.size ≤ 1099511627776 := hn _ (List.mem_cons_self ..)
      have h2 : x.size ≤ 549755813888 := hn _ (by simp [stepOut, dS])
      have h3 := derS_size f
      intro p hp
      simp only [List.mem_cons, List.not_mem_nil, or_false] at hp
      rcases hp with rfl | rfl | rfl | rfl
      · exact h1
      · decide
      · omega
      · exact h2⟩
def ctDerR : Ct := shCt 79 [.str] fun ds => ([(dS ds 0).size ≤ 1099511627776], .sv (.one (.str (derS (dS ds 0)))))
theorem ctDerR_ok : CtOk Try.prog ctDerR :=
  oneCt_ok (cts := [ctSecretR]) (fz := []) (fuel := 40) mix (allOk ⟨ctSecretR_ok, trivial⟩) Try.func79 (by kernel_rfl) (by kernel_rfl) (fun _ => rfl) fun ds h hn => match ds, h, hn with
    | [.S f], h, hn => ⟨_, viewArgs_is h, [f.size ≤ 1099511627776, (ByteArray.empty).size ≤ 1099511627776], by kernel_rfl, by
      have h1 : f.size ≤ 1099511627776 := hn _ (List.mem_cons_self ..)
      intro p hp
      simp only [List.mem_cons, List.not_mem_nil, or_false] at hp
      rcases hp with rfl | rfl
      · exact h1
      · decide⟩
def handOut (ds : List D) : List Prop × TV := ([(dS ds 0).size ≤ 549755813888], .sv (.one (.strn (stepS earlyS (dS ds 0)) 32 (stepS_size _ _))))
def ctHand : Ct := shCt 52 [.str] handOut
theorem early_le : earlyS.size ≤ 1099511627776 := by rw [earlyS_size]; decide
theorem ctHand_ok : CtOk Try.prog ctHand :=
  oneCt_ok (cts := [ctEarly, ctStep]) (fz := []) (fuel := 40) mix (allOk ⟨ctEarly_ok, ctStep_ok, trivial⟩) Try.func52 (by kernel_rfl) (by kernel_rfl) (fun _ => rfl) fun ds h hn => match ds, h, hn with
    | [.S x], h, hn => ⟨_, viewArgs_is h, [earlyS.size ≤ 1099511627776, x.size ≤ 549755813888], by kernel_rfl, by
      intro p hp
      simp only [List.mem_cons, List.not_mem_nil, or_false] at hp
      rcases hp with rfl | rfl
      · exact early_le
      · exact hn _ (List.mem_cons_self ..)⟩
def ctHandR : Ct := shCt 55 [.str] handOut
theorem ctHandR_ok : CtOk Try.prog ctHandR :=
  oneCt_ok (cts := [ctEarlyR, ctDerR, ctExtractR]) (fz := []) (fuel := 40) mix (allOk ⟨ctEarlyR_ok, ctDerR_ok, ctExtractR_ok, trivial⟩) Try.func55 (by kernel_rfl) (by kernel_rfl) (fun _ => rfl) fun ds h hn => match ds, h, hn with
    | [.S x], h, hn => ⟨_, viewArgs_is h, [earlyS.size ≤ 1099511627776, (derS earlyS).size ≤ 549755813888, x.size ≤ 549755813888], by kernel_rfl, by
      have h3 := derS_size earlyS
      intro p hp
      simp only [List.mem_cons, List.not_mem_nil, or_false] at hp
      rcases hp with rfl | rfl | rfl
      · exact early_le
      · omega
      · exact hn _ (List.mem_cons_self ..)⟩
def mastOut (ds : List D) : List Prop × TV := ([(dS ds 0).size ≤ 1099511627776], .sv (.one (.strn (stepS (dS ds 0) z32) 32 (stepS_size _ _))))
def ctMast : Ct := shCt 50 [.str] mastOut
theorem z32_le : z32.size ≤ 549755813888 := by rw [z32_size]; decide
theorem ctMast_ok : CtOk Try.prog ctMast :=
  oneCt_ok (cts := [ctNoughts, ctStep]) (fz := []) (fuel := 40) mix (allOk ⟨ctNoughts_ok, ctStep_ok, trivial⟩) Try.func50 (by kernel_rfl) (by kernel_rfl) (fun _ => rfl) fun ds h hn => match ds, h, hn with
    | [.S x], h, hn => ⟨_, viewArgs_is h, [x.size ≤ 1099511627776, z32.size ≤ 549755813888], by kernel_rfl, by
      intro p hp
      simp only [List.mem_cons, List.not_mem_nil, or_false] at hp
      rcases hp with rfl | rfl
      · exact hn _ (List.mem_cons_self ..)
      · exact z32_le⟩
def ctMastR : Ct := shCt 51 [.str] mastOut
theorem ctMastR_ok : CtOk Try.prog ctMastR :=
  oneCt_ok (cts := [ctDerR, ctExtractR]) (fz := []) (fuel := 40) mix (allOk ⟨ctDerR_ok, ctExtractR_ok, trivial⟩) Try.func51 (by kernel_rfl) (by kernel_rfl) (fun _ => rfl) fun ds h hn => match ds, h, hn with
    | [.S x], h, hn => ⟨_, viewArgs_is h, [x.size ≤ 1099511627776, (derS x).size ≤ 549755813888, z32.size ≤ 549755813888], by kernel_rfl, by
      have h3 := derS_size x
      intro p hp
      simp only [List.mem_cons, List.not_mem_nil, or_false] at hp
      rcases hp with rfl | rfl | rfl
      · exact hn _ (List.mem_cons_self ..)
      · omega
      · exact z32_le⟩
/-! ### What a secret is for -/
def plS (s l : ByteArray) (n : Int) : ByteArray := lblS s l .empty n
theorem plS_size (s l : ByteArray) (n : Int) : (plS s l n).size ≤ 8160 := lblS_size _ _ _ _
def plOut (ds : List D) : List Prop × TV := ([(dS ds 0).size ≤ 1099511627776], .sv (.one (.str (plS (dS ds 0) (dS ds 1) (dI ds 2)))))
def ctPlain : Ct := shCt 74 [.str, .str, .num .i64] plOut
theorem ctPlain_ok : CtOk Try.prog ctPlain :=
  oneCt_ok (cts := [ctLabel]) (fz := []) (fuel := 40) mix (allOk ⟨ctLabel_ok, trivial⟩) Try.func74 (by kernel_rfl) (by kernel_rfl) (fun _ => rfl) fun ds h hn => match ds, h, hn with
    | [.S s, .S _, .I _], h, hn => ⟨_, viewArgs_is h, [s.size ≤ 1099511627776], by kernel_rfl, hn⟩
def ctPlainR : Ct := shCt 76 [.str, .str, .num .i64] plOut
theorem ctPlainR_ok : CtOk Try.prog ctPlainR :=
  oneCt_ok (cts := [ctLabelR]) (fz := []) (fuel := 40) mix (allOk ⟨ctLabelR_ok, trivial⟩) Try.func76 (by kernel_rfl) (by kernel_rfl) (fun _ => rfl) fun ds h hn => match ds, h, hn with
    | [.S s, .S _, .I _], h, hn => ⟨_, viewArgs_is h, [s.size ≤ 1099511627776], by kernel_rfl, hn⟩
def szN (n : Int) : Int := bif n == 4865 then 16 else bif n == 4867 then 32 else 0
def ctSize : Ct := shCt 73 [.num .i64] fun ds => ([], .sv (.one (.int .i64 (szN (dI ds 0)))))
theorem ctSize_ok : CtOk Try.prog ctSize :=
  oneCt_ok (cts := []) (fz := []) (fuel := 40) mix (by simp) Try.func73 (by kernel_rfl) (by kernel_rfl) (fun _ => rfl) fun ds h _ => match ds, h with
    | [.I _], h => ⟨_, viewArgs_is h, [], by kernel_rfl, by simp⟩
def ctSizeR : Ct := shCt 75 [.num .i64] fun ds => ([], .sv (.one (.int .i64 (szN (dI ds 0)))))
theorem ctSizeR_ok : CtOk Try.prog ctSizeR :=
  oneCt_ok (cts := []) (fz := []) (fuel := 40) mix (by simp) Try.func75 (by kernel_rfl) (by kernel_rfl) (fun _ => rfl) fun ds h _ => match ds, h with
    | [.I _], h => ⟨_, viewArgs_is h, [], by kernel_rfl, by simp⟩
def keyW : ByteArray := ⟨#[107, 101, 121]⟩
def ivW : ByteArray := ⟨#[105, 118]⟩
def finW : ByteArray := ⟨#[102, 105, 110, 105, 115, 104, 101, 100]⟩
def trK (n : Int) (s : ByteArray) : ByteArray := bif szN n == 0 then .empty else plS s keyW (szN n)
def trI (n : Int) (s : ByteArray) : ByteArray := bif szN n == 0 then .empty else plS s ivW 12
def trE (n : Int) : Int := bif szN n == 0 then 1 else 0
def trT (n : Int) (s : ByteArray) : TV := .tup [.one (.str (trK n s)), .one (.str (trI n s)), .one (.int .i64 (trE n))]
def trTree (n : Int) (s : ByteArray) : TT := .br (szN n == 0) (.leaf (.tup [.one (.str .empty), .one (.str .empty), .one (.int .i64 1)])) (needT [s.size ≤ 1099511627776, s.size ≤ 1099511627776] (.leaf (.tup [.one (.str (plS s keyW (szN n))), .one (.str (plS s ivW 12)), .one (.int .i64 0)])))
theorem trTree_wp {n : Int} {s : ByteArray} (hs : s.size ≤ 1099511627776) : (trTree n s).wp (fun x => x = (trT n s).norm) := by
  unfold trTree trT trK trI trE
  cases szN n == 0
  · refine TT.br_f rfl (needT_wp (fun p hp => ?_) rfl)
    simp only [List.mem_cons, List.not_mem_nil, or_false, or_self] at hp
    rcases hp with rfl
    exact hs
  · exact TT.br_t rfl rfl
def trOut (ds : List D) : List Prop × TV := ([(dS ds 1).size ≤ 1099511627776], trT (dI ds 0) (dS ds 1))
def ctTraffic : Ct := shCt 44 [.num .i64, .str] trOut
theorem ctTraffic_ok : CtOk Try.prog ctTraffic :=
  runCtL_ok (cts := [ctPlain, ctSize]) (fz := []) (fuel := 40) mix (allOk ⟨ctPlain_ok, ctSize_ok, trivial⟩) Try.func44 (c := bodyOf Try.f44) (by kernel_rfl) (by kernel_rfl) (fun _ => rfl) fun ds h hn => match ds, h, hn with
    | [.I n, .S s], h, hn => by
      refine ⟨[], (fun _ _ _ hg => by cases hg), _, viewArgs_is h, ?_⟩
      have hr : runC Try.prog [ctPlain, ctSize] [] [] 40 Try.f44 (bodyOf Try.f44) (viewArgs [.num .i64, .str] [.I n, .S s] h) = trTree n s := by kernel_rfl
      rw [hr]
      exact trTree_wp (hn _ (List.mem_cons_self ..))
def ctTrafficR : Ct := shCt 45 [.num .i64, .str] trOut
theorem ctTrafficR_ok : CtOk Try.prog ctTrafficR :=
  runCtL_ok (cts := [ctPlainR, ctSizeR]) (fz := []) (fuel := 40) mix (allOk ⟨ctPlainR_ok, ctSizeR_ok, trivial⟩) Try.func45 (c := bodyOf Try.f45) (by kernel_rfl) (by kernel_rfl) (fun _ => rfl) fun ds h hn => match ds, h, hn with
    | [.I n, .S s], h, hn => by
      refine ⟨[], (fun _ _ _ hg => by cases hg), _, viewArgs_is h, ?_⟩
      have hr : runC Try.prog [ctPlainR, ctSizeR] [] [] 40 Try.f45 (bodyOf Try.f45) (viewArgs [.num .i64, .str] [.I n, .S s] h) = trTree n s := by kernel_rfl
      rw [hr]
      exact trTree_wp (hn _ (List.mem_cons_self ..))
def updW : ByteArray := ⟨#[116, 114, 97, 102, 102, 105, 99, 32, 117, 112, 100]⟩
def nextOut (ds : List D) : List Prop × TV := ([(dS ds 0).size ≤ 1099511627776], .sv (.one (.str (plS (dS ds 0) updW 32))))
def ctNext : Ct := shCt 46 [.str] nextOut
theorem ctNext_ok : CtOk Try.prog ctNext :=
  oneCt_ok (cts := [ctPlain]) (fz := []) (fuel := 40) mix (allOk ⟨ctPlain_ok, trivial⟩) Try.func46 (by kernel_rfl) (by kernel_rfl) (fun _ => rfl) fun ds h hn => match ds, h, hn with
    | [.S s], h, hn => ⟨_, viewArgs_is h, [s.size ≤ 1099511627776], by kernel_rfl, hn⟩
def ctNextR : Ct := shCt 47 [.str] nextOut
theorem ctNextR_ok : CtOk Try.prog ctNextR :=
  oneCt_ok (cts := [ctPlainR]) (fz := []) (fuel := 40) mix (allOk ⟨ctPlainR_ok, trivial⟩) Try.func47 (by kernel_rfl) (by kernel_rfl) (fun _ => rfl) fun ds h hn => match ds, h, hn with
    | [.S s], h, hn => ⟨_, viewArgs_is h, [s.size ≤ 1099511627776], by kernel_rfl, hn⟩
def tagS (s d : ByteArray) : ByteArray := mac32 (plS s finW 32) (Sh32.dgS d)
theorem tagS_size (s d : ByteArray) : (tagS s d).size = 32 := mac32_size _ _
def tagOut (ds : List D) : List Prop × TV := ([(dS ds 0).size ≤ 1099511627776, (dS ds 1).size ≤ 1099511627776], .sv (.one (.strn (tagS (dS ds 0) (dS ds 1)) 32 (tagS_size _ _))))
theorem tag_needs {s d x : ByteArray} (hs : s.size ≤ 1099511627776) (hd : d.size ≤ 1099511627776) (hx : x.size = 32) : ∀ p ∈ [s.size ≤ 1099511627776, d.size ≤ 1099511627776, (plS s finW 32).size ≤ 1099511627776, x.size ≤ 549755813888], p := by
  have h3 := plS_size s finW 32
  intro p hp
  simp only [List.mem_cons, List.not_mem_nil, or_false] at hp
  rcases hp with rfl | rfl | rfl | rfl <;> omega
def ctTagK : Ct := shCt 58 [.str, .str] tagOut
theorem ctTagK_ok : CtOk Try.prog ctTagK :=
  oneCt_ok (cts := [ctPlain, ctMacP, Sh32.ctSum]) (fz := []) (fuel := 40) mix (allOk ⟨ctPlain_ok, ctMacP_ok, Sh32.ctSum_ok, trivial⟩) Try.func58 (by kernel_rfl) (by kernel_rfl) (fun _ => rfl) fun ds h hn => match ds, h, hn with
    | [.S s, .S d], h, hn => ⟨_, viewArgs_is h, [s.size ≤ 1099511627776, d.size ≤ 1099511627776, (plS s finW 32).size ≤ 1099511627776, (Sh32.dgS d).size ≤ 549755813888], by kernel_rfl, tag_needs (hn _ (List.mem_cons_self ..)) (hn _ (by simp [tagOut, dS])) (Sh32.dgS_size _)⟩
def ctTagR : Ct := shCt 59 [.str, .str] tagOut
theorem ctTagR_ok : CtOk Try.prog ctTagR :=
  runCtL_ok (cts := [ctPlainR, ctMacQ, Sh32.ctSumR]) (fz := []) (fuel := 40) mix (allOk ⟨ctPlainR_ok, ctMacQ_ok, Sh32.ctSumR_ok, trivial⟩) Try.func59 (c := bodyOf Try.f59) (by kernel_rfl) (by kernel_rfl) (fun _ => rfl) fun ds h hn => match ds, h, hn with
    | [.S s, .S d], h, hn => by
      have hd : d.size ≤ 1099511627776 := hn _ (by simp [tagOut, dS])
      refine ⟨[], (fun _ _ _ hg => by cases hg), _, viewArgs_is h, ?_⟩
      have hr : runC Try.prog [ctPlainR, ctMacQ, Sh32.ctSumR] [] [] 40 Try.f59 (bodyOf Try.f59) (viewArgs [.str, .str] [.S s, .S d] h) = needT [s.size ≤ 1099511627776, d.size ≤ 1099511627776, (plS s finW 32).size ≤ 1099511627776, (Sh32.smS d).size ≤ 549755813888] (.leaf (.sv (.one (.str (mac32 (plS s finW 32) (Sh32.smS d)))))) := by kernel_rfl
      rw [hr, Sh32.sm_eq hd]
      exact needT_wp (tag_needs (hn _ (List.mem_cons_self ..)) hd (Sh32.dgS_size _)) rfl
end Go.Proofs.Ytihmhnfjdkkbgaa
