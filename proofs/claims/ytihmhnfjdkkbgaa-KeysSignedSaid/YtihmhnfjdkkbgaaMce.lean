/- The statements of layer 2: the examples; tags, what is extracted and expanded, labels, whether two texts are the same. -/
import Derived.Test.YtihmhnfjdkkbgaaMcd
noncomputable section
namespace Go.Proofs.Ytihmhnfjdkkbgaa
open Go Go.RowKit RX Sh
set_option linter.unusedSimpArgs false
set_option maxRecDepth 10000000
/-! ### The examples -/
def exK : ByteArray := ⟨#[107, 101, 121]⟩
def exD : ByteArray := ⟨#[84, 104, 101, 32, 113, 117, 105, 99, 107, 32, 98, 114, 111, 119, 110, 32, 102, 111, 120, 32, 106, 117, 109, 112, 115, 32, 111, 118, 101, 114, 32, 116, 104, 101, 32, 108, 97, 122, 121, 32, 100, 111, 103]⟩
def exI : ByteArray := Sh32.dgS (padS 64 exK 54 ++ exD)
theorem mac_ex : (mac32 exK exD).extract 0 4 = ⟨#[247, 188, 131, 244]⟩ := by
  have e : key32 exK = exK := key32_short (by decide)
  unfold mac32
  rw [e]
  unfold Sh32.dgS Sh32.dgL
  decide +kernel
def ctAwakeM : Ct := shCt 33 [] fun _ => ([], bool1 true)
def exN : List Prop := [exK.size ≤ 1099511627776, exD.size ≤ 549755813888, (⟨#[107]⟩ : ByteArray).size ≤ 1099511627776, (⟨#[]⟩ : ByteArray).size ≤ 274877906944, (⟨#[107]⟩ : ByteArray).size ≤ 1099511627776, (⟨#[100]⟩ : ByteArray).size ≤ 549755813888]
theorem ctAwakeM_ok : CtOk Try.prog ctAwakeM :=
  runCtL_ok (cts := [ctMacP, ctExpand]) (fz := []) (fuel := 10) mix (allOk ⟨ctMacP_ok, ctExpand_ok, trivial⟩) Try.func33 (c := bodyOf Try.f33) (by kernel_rfl) (by kernel_rfl) (fun _ => rfl) fun ds h _ => match ds, h with
    | [], h => by
      refine ⟨[], (fun _ _ _ hg => by cases hg), [], fun _ _ h => h, ?_⟩
      have hr : runC Try.prog [ctMacP, ctExpand] [] [] 10 Try.f33 (bodyOf Try.f33) [] =
          needT exN (.br (((mac32 exK exD).extract 0 4).toList == (⟨#[247, 188, 131, 244]⟩ : ByteArray).toList) (.br ((expS ⟨#[107]⟩ ⟨#[]⟩ 0).toList == (⟨#[]⟩ : ByteArray).toList) (.br (expE 0 == 0) (.leaf (bool1 (macE 48 == 1))) noS) noS) noS) := by kernel_rfl
      rw [hr, mac_ex]
      refine needT_wp (fun p hp => ?_) (TT.br_t (beq_self_eq_true _) (TT.br_t ?_ (TT.br_t rfl rfl)))
      · simp only [exN, List.mem_cons, List.not_mem_nil, or_false] at hp
        rcases hp with rfl | rfl | rfl | rfl | rfl | rfl <;> decide +kernel
      · have e : expS ⟨#[107]⟩ ⟨#[]⟩ 0 = ⟨#[]⟩ := by decide +kernel
        rw [e]
        exact beq_self_eq_true _
/-! ### Both sides -/
theorem macTags_calls (n : Int) (k d : ByteArray) (w : World) : Calls Try.prog 9 ⟨[.int .i64 n, .string k, .string d]⟩ w (RetT w noaway (bool1 true)) := by
  have hr : runC Try.prog [ctMacP, ctMacQ, ctAwakeM] [] [] 10 Try.f9 (bodyOf Try.f9) [.one (.int .i64 n), .one (.str k), .one (.str d)] =
      .br (decide ((k.size : Int) > 10000)) yesS (.br (decide ((d.size : Int) > 10000)) yesS (needT (needsM2 k d ++ needsM2 k d) (.br ((macS n k d).toList == (macS n k d).toList) (.br (macE n == macE n) yesS noS) noS))) := by kernel_rfl
  refine calls_of_runT (cts := [ctMacP, ctMacQ, ctAwakeM]) (lps := []) (fz := []) (fuel := 10) mix (allOk ⟨ctMacP_ok, ctMacQ_ok, ctAwakeM_ok, trivial⟩) Try.func9 (c := bodyOf Try.f9) (by kernel_rfl) (fun _ _ g hg => by cases hg) (args := [.one (.int .i64 n), .one (.str k), .one (.str d)]) rfl ?_ (fun k hk => hk.elim) ⟨rfl, rfl, rfl, trivial⟩
  rw [hr]
  refine ⟨fun _ => rfl, fun hb => ⟨fun _ => rfl, fun hb2 => needT_wp (fun p hp => ?_) (TT.br_t (beq_self_eq_true _) (TT.br_t (beq_self_eq_true _) rfl))⟩⟩
  have h1 := of_decide_eq_false hb
  have h2 := of_decide_eq_false hb2
  simp only [needsM2, List.mem_append, List.mem_cons, List.not_mem_nil, or_false] at hp
  rcases hp with (rfl | rfl) | (rfl | rfl) <;> omega
theorem macExtracts_calls (k d : ByteArray) (w : World) : Calls Try.prog 13 ⟨[.string k, .string d]⟩ w (RetT w noaway (bool1 true)) := by
  have hr : runC Try.prog [ctExtract, ctExtractR, ctAwakeM] [] [] 10 Try.f13 (bodyOf Try.f13) [.one (.str k), .one (.str d)] =
      .br (decide ((k.size : Int) > 10000)) yesS (.br (decide ((d.size : Int) > 10000)) yesS (needT (needsM2 k d ++ [k.size ≤ 549755813888, d.size ≤ 549755813888]) (.br ((mac32 k d).toList == (mac32 k d).toList) yesS noS))) := by kernel_rfl
  refine calls_of_runT (cts := [ctExtract, ctExtractR, ctAwakeM]) (lps := []) (fz := []) (fuel := 10) mix (allOk ⟨ctExtract_ok, ctExtractR_ok, ctAwakeM_ok, trivial⟩) Try.func13 (c := bodyOf Try.f13) (by kernel_rfl) (fun _ _ g hg => by cases hg) (args := [.one (.str k), .one (.str d)]) rfl ?_ (fun k hk => hk.elim) ⟨rfl, rfl, trivial⟩
  rw [hr]
  refine ⟨fun _ => rfl, fun hb => ⟨fun _ => rfl, fun hb2 => needT_wp (fun p hp => ?_) (TT.br_t (beq_self_eq_true _) rfl)⟩⟩
  have h1 := of_decide_eq_false hb
  have h2 := of_decide_eq_false hb2
  simp only [needsM2, List.mem_append, List.mem_cons, List.not_mem_nil, or_false] at hp
  rcases hp with (rfl | rfl) | (rfl | rfl) <;> omega
theorem macExtract_calls (k d : ByteArray) (w : World) : Calls Try.prog 14 ⟨[.string k, .string d]⟩ w (RetT w noaway (bool1 true)) := by
  have hr : runC Try.prog [ctExtract, ctMacP, ctAwakeM] [] [500005] 10 Try.f14 (bodyOf Try.f14) [.one (.str k), .one (.str d)] =
      .br (decide ((k.size : Int) > 1000)) yesS (.br (decide ((d.size : Int) > 1000)) yesS (.br (k.toList == (⟨#[]⟩ : ByteArray).toList) (needT (needsM2 z32 d ++ needsM2 k d) (.br ((mac32 k d).toList == (mac32 z32 d).toList) yesS noS)) (needT (needsM2 k d ++ needsM2 k d) (.br ((mac32 k d).toList == (mac32 k d).toList) yesS noS)))) := by kernel_rfl
  refine calls_of_runT (cts := [ctExtract, ctMacP, ctAwakeM]) (lps := []) (fz := [500005]) (fuel := 10) mix (allOk ⟨ctExtract_ok, ctMacP_ok, ctAwakeM_ok, trivial⟩) Try.func14 (c := bodyOf Try.f14) (by kernel_rfl) (fun _ _ g hg => by cases hg) (args := [.one (.str k), .one (.str d)]) rfl ?_ (fun k hk => hk.elim) ⟨rfl, rfl, trivial⟩
  rw [hr]
  refine ⟨fun _ => rfl, fun hb => ⟨fun _ => rfl, fun hb2 => ?_⟩⟩
  have h1 := of_decide_eq_false hb
  have h2 := of_decide_eq_false hb2
  refine ⟨fun hb3 => needT_wp (fun p hp => ?_) (TT.br_t ?_ rfl), fun _ => needT_wp (fun p hp => ?_) (TT.br_t (beq_self_eq_true _) rfl)⟩
  · simp only [needsM2, List.mem_append, List.mem_cons, List.not_mem_nil, or_false, z32_size] at hp
    rcases hp with (rfl | rfl) | (rfl | rfl) <;> omega
  · rw [toList_beq] at hb3
    have e : k = ⟨#[]⟩ := of_decide_eq_true hb3
    rw [mac32_nil, e]
    exact beq_self_eq_true _
  · simp only [needsM2, List.mem_append, List.mem_cons, List.not_mem_nil, or_false] at hp
    rcases hp with (rfl | rfl) | (rfl | rfl) <;> omega
theorem macExpands_calls (k d : ByteArray) (n : Int) (w : World) : Calls Try.prog 10 ⟨[.string k, .string d, .int .i64 n]⟩ w (RetT w noaway (bool1 true)) := by
  have hr : runC Try.prog [ctExpand, ctExpandR, ctAwakeM] [] [] 10 Try.f10 (bodyOf Try.f10) [.one (.str k), .one (.str d), .one (.int .i64 n)] =
      .br (decide ((k.size : Int) > 1000)) yesS (.br (decide ((d.size : Int) > 1000)) yesS (needT [k.size ≤ 1099511627776, d.size ≤ 274877906944, k.size ≤ 1099511627776, d.size ≤ 274877906944] (.br ((expS k d n).toList == (expS k d n).toList) (.br (expE n == expE n) yesS noS) noS))) := by kernel_rfl
  refine calls_of_runT (cts := [ctExpand, ctExpandR, ctAwakeM]) (lps := []) (fz := []) (fuel := 10) mix (allOk ⟨ctExpand_ok, ctExpandR_ok, ctAwakeM_ok, trivial⟩) Try.func10 (c := bodyOf Try.f10) (by kernel_rfl) (fun _ _ g hg => by cases hg) (args := [.one (.str k), .one (.str d), .one (.int .i64 n)]) rfl ?_ (fun k hk => hk.elim) ⟨rfl, rfl, rfl, trivial⟩
  rw [hr]
  refine ⟨fun _ => rfl, fun hb => ⟨fun _ => rfl, fun hb2 => needT_wp (fun p hp => ?_) (TT.br_t (beq_self_eq_true _) (TT.br_t (beq_self_eq_true _) rfl))⟩⟩
  have h1 := of_decide_eq_false hb
  have h2 := of_decide_eq_false hb2
  simp only [List.mem_cons, List.not_mem_nil, or_false] at hp
  rcases hp with rfl | rfl | rfl | rfl <;> omega
theorem macSame_calls (a : ByteArray) (ha : a.size ≤ 9223372036854775807) (b : ByteArray) (w : World) : Calls Try.prog 16 ⟨[.string a, .string b]⟩ w (RetT w noaway (bool1 true)) := by
  have hr : runC Try.prog [ctSame, ctAwakeM] [] [] 10 Try.f16 (bodyOf Try.f16) [.one (.str a), .one (.str b)] =
      .need (a.size ≤ 9223372036854775807) (.br ((a.toList == b.toList) == (a.toList == b.toList)) (.need (a.size ≤ 9223372036854775807) (.br (a.toList == a.toList) yesS noS)) noS) := by kernel_rfl
  refine calls_of_runT (cts := [ctSame, ctAwakeM]) (lps := []) (fz := []) (fuel := 10) mix (allOk ⟨ctSame_ok, ctAwakeM_ok, trivial⟩) Try.func16 (c := bodyOf Try.f16) (by kernel_rfl) (fun _ _ g hg => by cases hg) (args := [.one (.str a), .one (.str b)]) rfl ?_ (fun k hk => hk.elim) ⟨rfl, rfl, trivial⟩
  rw [hr]
  exact ⟨ha, TT.br_t (beq_self_eq_true _) ⟨ha, TT.br_t (beq_self_eq_true _) rfl⟩⟩
theorem macLabels_calls (k l x : ByteArray) (n : Int) (w : World) : Calls Try.prog 15 ⟨[.string k, .agg ⟨[.string l, .string x, .int .i64 n]⟩]⟩ w (RetT w noaway (bool1 true)) := by
  have hr : runC Try.prog [ctLabel, ctLabelR, ctAwakeM] [] [] 10 Try.f15 (bodyOf Try.f15) [.one (.str k), .agg [.str l, .str x, .int .i64 n]] =
      .br (decide ((k.size : Int) > 1000)) yesS (.br (decide ((l.size : Int) > 1000)) yesS (.br (decide ((x.size : Int) > 1000)) yesS (needT [k.size ≤ 1099511627776, k.size ≤ 1099511627776] (.br ((lblS k l x n).toList == (lblS k l x n).toList) (.br (lblE l x n == lblE l x n) yesS noS) noS)))) := by kernel_rfl
  refine calls_of_runT (cts := [ctLabel, ctLabelR, ctAwakeM]) (lps := []) (fz := []) (fuel := 10) mix (allOk ⟨ctLabel_ok, ctLabelR_ok, ctAwakeM_ok, trivial⟩) Try.func15 (c := bodyOf Try.f15) (by kernel_rfl) (fun _ _ g hg => by cases hg) (args := [.one (.str k), .agg [.str l, .str x, .int .i64 n]]) rfl ?_ (fun k hk => hk.elim) ⟨rfl, ⟨_, rfl, rfl, rfl, rfl, trivial⟩, trivial⟩
  rw [hr]
  refine ⟨fun _ => rfl, fun hb => ⟨fun _ => rfl, fun _ => ⟨fun _ => rfl, fun _ => needT_wp (fun p hp => ?_) (TT.br_t (beq_self_eq_true _) (TT.br_t (beq_self_eq_true _) rfl))⟩⟩⟩
  have h1 := of_decide_eq_false hb
  simp only [List.mem_cons, List.not_mem_nil, or_false] at hp
  rcases hp with rfl | rfl <;> omega
/-! ### Keys longer and shorter than a block -/
theorem key64_short {k : ByteArray} (h : k.size ≤ 128) : key64 k = k := by
  unfold key64
  rw [decide_eq_false (by omega)]
  rfl
def nul1 : ByteArray := ⟨#[0]⟩
theorem nul1_byte (i : Nat) (h : i < 1) : sbyte nul1 i = 0 := by
  have e : i = 0 := by omega
  subst e
  decide +kernel
theorem padS_nul (n : Nat) (k : ByteArray) (c : Int) : padS n (k ++ nul1) c = padS n k c := by
  have e : nul1.size = 1 := rfl
  refine padS_more (by rw [ByteArray.size_append]; omega) (fun i hi => sbyte_append_left hi) (fun i h1 h2 => ?_) c
  rw [ByteArray.size_append, e] at h2
  rw [sbyte_append_right h1]
  exact nul1_byte _ (by omega)
theorem long32 {k : ByteArray} (h : (k.size : Int) > 64) (d : ByteArray) : mac32 k d = mac32 (Sh32.dgS k) d := by
  have e : key32 (Sh32.dgS k) = key32 k := by
    rw [key32_short (by rw [Sh32.dgS_size]; decide)]
    unfold key32
    rw [decide_eq_true h]
    rfl
  unfold mac32
  rw [e]
theorem long64 {k : ByteArray} (h : (k.size : Int) > 128) (d : ByteArray) : mac64 k d = mac64 (Sh64.dgS k) d := by
  have e : key64 (Sh64.dgS k) = key64 k := by
    rw [key64_short (by rw [Sh64.dgS_size]; decide)]
    unfold key64
    rw [decide_eq_true h]
    rfl
  unfold mac64
  rw [e]
theorem short32 {k : ByteArray} (h : (k.size : Int) < 64) (d : ByteArray) : mac32 k d = mac32 (k ++ nul1) d := by
  have e : nul1.size = 1 := rfl
  unfold mac32
  rw [key32_short (by omega), key32_short (by rw [ByteArray.size_append]; omega), padS_nul, padS_nul]
theorem short64 {k : ByteArray} (h : (k.size : Int) < 128) (d : ByteArray) : mac64 k d = mac64 (k ++ nul1) d := by
  have e : nul1.size = 1 := rfl
  unfold mac64
  rw [key64_short (by omega), key64_short (by rw [ByteArray.size_append]; omega), padS_nul, padS_nul]
def lgE (k d a b : ByteArray) : TT := .br ((mac32 k d).toList == (mac32 a d).toList) (.br ((mac64 k d).toList == (mac64 b d).toList) yesS noS) noS
def needsG (k d : ByteArray) : List Prop := [k.size ≤ 1099511627776, d.size ≤ 549755813888]
def lg2 (k d a : ByteArray) : TT := .br (decide ((k.size : Int) > 128)) (needT ((k.size ≤ 1099511627776) :: needsG (Sh64.dgS k) d) (lgE k d a (Sh64.dgS k)))
  (.br (decide ((k.size : Int) < 128)) (needT ((k.size + nul1.size ≤ 9223372036854775807) :: needsG (k ++ nul1) d) (lgE k d a (k ++ nul1))) (needT (needsG k d) (lgE k d a k)))
def lg1 (k d : ByteArray) : TT := .br (decide ((k.size : Int) > 64)) (needT ((k.size ≤ 1099511627776) :: needsG (Sh32.dgS k) d) (lg2 k d (Sh32.dgS k)))
  (.br (decide ((k.size : Int) < 64)) (needT ((k.size + nul1.size ≤ 9223372036854775807) :: needsG (k ++ nul1) d) (lg2 k d (k ++ nul1))) (needT (needsG k d) (lg2 k d k)))
theorem lgE_wp {k d a b : ByteArray} (h1 : mac32 k d = mac32 a d) (h2 : mac64 k d = mac64 b d) : (lgE k d a b).wp (fun x => x = bool1 true) := by
  unfold lgE
  rw [h1, h2]
  exact TT.br_t (beq_self_eq_true _) (TT.br_t (beq_self_eq_true _) rfl)
theorem needsG_ok {k d : ByteArray} (hk : k.size ≤ 1000) (hd : d.size ≤ 1000) : ∀ p ∈ needsG k d, p := by
  intro p hp
  simp only [needsG, List.mem_cons, List.not_mem_nil, or_false] at hp
  rcases hp with rfl | rfl <;> omega
theorem cons_ok {p : Prop} {l : List Prop} (hp : p) (h : ∀ q ∈ l, q) : ∀ q ∈ p :: l, q := by
  intro q hq
  rcases List.mem_cons.1 hq with rfl | hq
  · exact hp
  · exact h q hq
theorem lg2_wp {k d a : ByteArray} (hk : k.size ≤ 500) (hd : d.size ≤ 1000) (h1 : mac32 k d = mac32 a d) : (lg2 k d a).wp (fun x => x = bool1 true) := by
  have e : nul1.size = 1 := rfl
  refine ⟨fun hb => needT_wp (cons_ok (by omega) (needsG_ok (by rw [Sh64.dgS_size]; decide) hd)) (lgE_wp h1 (long64 (of_decide_eq_true hb) d)), fun _ => ⟨fun hb => needT_wp (cons_ok (by omega) (needsG_ok (by rw [ByteArray.size_append]; omega) hd)) (lgE_wp h1 (short64 (of_decide_eq_true hb) d)), fun _ => needT_wp (needsG_ok (by omega) hd) (lgE_wp h1 rfl)⟩⟩
theorem lg1_wp {k d : ByteArray} (hk : k.size ≤ 500) (hd : d.size ≤ 1000) : (lg1 k d).wp (fun x => x = bool1 true) := by
  have e : nul1.size = 1 := rfl
  refine ⟨fun hb => needT_wp (cons_ok (by omega) (needsG_ok (by rw [Sh32.dgS_size]; decide) hd)) (lg2_wp hk hd (long32 (of_decide_eq_true hb) d)), fun _ => ⟨fun hb => needT_wp (cons_ok (by omega) (needsG_ok (by rw [ByteArray.size_append]; omega) hd)) (lg2_wp hk hd (short32 (of_decide_eq_true hb) d)), fun _ => needT_wp (needsG_ok (by omega) hd) (lg2_wp hk hd rfl)⟩⟩
theorem macLong_calls (k d : ByteArray) (w : World) : Calls Try.prog 12 ⟨[.string k, .string d]⟩ w (RetT w noaway (bool1 true)) := by
  have hr : runC Try.prog [ctMacP, Sh32.ctSum, Sh64.ctSum, ctAwakeM] [] [500007, 500009, 500013, 500015] 10 Try.f12 (bodyOf Try.f12) [.one (.str k), .one (.str d)] =
      .br (decide ((k.size : Int) > 500)) yesS (.br (decide ((d.size : Int) > 1000)) yesS (needT (needsG k d ++ needsG k d) (lg1 k d))) := by kernel_rfl
  refine calls_of_runT (cts := [ctMacP, Sh32.ctSum, Sh64.ctSum, ctAwakeM]) (lps := []) (fz := [500007, 500009, 500013, 500015]) (fuel := 10) mix (allOk ⟨ctMacP_ok, Sh32.ctSum_ok, Sh64.ctSum_ok, ctAwakeM_ok, trivial⟩) Try.func12 (c := bodyOf Try.f12) (by kernel_rfl) (fun _ _ g hg => by cases hg) (args := [.one (.str k), .one (.str d)]) rfl ?_ (fun k hk => hk.elim) ⟨rfl, rfl, trivial⟩
  rw [hr]
  refine ⟨fun _ => rfl, fun hb => ⟨fun _ => rfl, fun hb2 => ?_⟩⟩
  have h1 := of_decide_eq_false hb
  have h2 := of_decide_eq_false hb2
  have hg := needsG_ok (k := k) (d := d) (by omega) (by omega)
  refine needT_wp (fun p hp => ?_) (lg1_wp (by omega) (by omega))
  rcases List.mem_append.1 hp with hp | hp <;> exact hg p hp
/-! ### Beginnings -/
theorem oB_begin (k f : ByteArray) (a : Nat) : ∀ b, ∃ r, oB k f (a + b) = oB k f a ++ r
  | 0 => ⟨.empty, by rw [Nat.add_zero, ByteArray.append_empty]⟩
  | b + 1 => by
    obtain ⟨r, hr⟩ := oB_begin k f a b
    exact ⟨r ++ tB k f (a + b + 1), by rw [← Nat.add_assoc, oB, hr, ByteArray.append_assoc]⟩
theorem begin_size {s : ByteArray} {n : Nat} (h : n ≤ s.size) : (s.extract 0 n).size = n := by rw [ByteArray.size_extract]; omega
theorem exp_begin (k f : ByteArray) {m n : Int} (h0 : 0 ≤ m) (h1 : m ≤ n) : ((oB k f (rndsE n)).extract 0 n.toNat).extract 0 m.toNat = (oB k f (rndsE m)).extract 0 m.toNat := by
  obtain ⟨r, hr⟩ := oB_begin k f (rndsE m) (rndsE n - rndsE m)
  have hle : rndsE m ≤ rndsE n := by unfold rndsE; omega
  have e : rndsE m + (rndsE n - rndsE m) = rndsE n := by omega
  rw [e] at hr
  have sm := oB_size k f (rndsE m)
  have sn := oB_size k f (rndsE n)
  have bm := rnds_big (n := m)
  have bn := rnds_big (n := n)
  have hn : ((oB k f (rndsE n)).extract 0 n.toNat).size = n.toNat := begin_size (by omega)
  refine str_ext ?_ fun i hi => ?_
  · rw [begin_size (by rw [hn]; omega), begin_size (by omega)]
  · rw [begin_size (by rw [hn]; omega)] at hi
    rw [sbyte_extract (by omega), sbyte_extract (by omega), sbyte_extract (by omega), Nat.zero_add, Nat.zero_add, hr, sbyte_append_left (by omega)]
theorem expS_ok (k f : ByteArray) {n : Int} (h0 : 0 ≤ n) (h1 : n ≤ 1000) : expS k f n = (oB k f (rndsE n)).extract 0 n.toNat ∧ expE n = 0 ∧ (expS k f n).size = n.toNat := by
  obtain ⟨e1, e2⟩ := expS_in (k := k) (f := f) (n := n) (by omega) (by omega)
  have sn := oB_size k f (rndsE n)
  have bn := rnds_big (n := n)
  exact ⟨e1, e2, by rw [e1, begin_size (by omega)]⟩
def bgT (k d : ByteArray) (m n : Int) : TT := .br (expE m == 0) (.br (expE n == 0) (.br (((expS k d m).size : Int) == m) (.br (((expS k d n).size : Int) == n)
  (needT [(0 : Int) ≤ 0, 0 ≤ m, m ≤ ((expS k d n).size : Int)] (.br (((expS k d n).extract (Int.toNat 0) m.toNat).toList == (expS k d m).toList) yesS noS)) noS) noS) noS) noS
theorem macBegins_calls (k d : ByteArray) (m n : Int) (w : World) : Calls Try.prog 11 ⟨[.string k, .string d, .agg ⟨[.int .i64 m, .int .i64 n]⟩]⟩ w (RetT w noaway (bool1 true)) := by
  have hr : runC Try.prog [ctExpand, ctAwakeM] [] [] 10 Try.f11 (bodyOf Try.f11) [.one (.str k), .one (.str d), .agg [.int .i64 m, .int .i64 n]] =
      .br (decide ((k.size : Int) > 1000)) yesS (.br (decide ((d.size : Int) > 1000)) yesS (.br (decide (m < 0)) yesS (.br (decide (n < m)) yesS (.br (decide (n > 1000)) yesS
        (needT [k.size ≤ 1099511627776, d.size ≤ 274877906944, k.size ≤ 1099511627776, d.size ≤ 274877906944] (bgT k d m n)))))) := by kernel_rfl
  refine calls_of_runT (cts := [ctExpand, ctAwakeM]) (lps := []) (fz := []) (fuel := 10) mix (allOk ⟨ctExpand_ok, ctAwakeM_ok, trivial⟩) Try.func11 (c := bodyOf Try.f11) (by kernel_rfl) (fun _ _ g hg => by cases hg) (args := [.one (.str k), .one (.str d), .agg [.int .i64 m, .int .i64 n]]) rfl ?_ (fun k hk => hk.elim) ⟨rfl, rfl, ⟨_, rfl, rfl, rfl, trivial⟩, trivial⟩
  rw [hr]
  refine ⟨fun _ => rfl, fun hb => ⟨fun _ => rfl, fun hb2 => ⟨fun _ => rfl, fun hb3 => ⟨fun _ => rfl, fun hb4 => ⟨fun _ => rfl, fun hb5 => ?_⟩⟩⟩⟩⟩
  have h1 := of_decide_eq_false hb
  have h2 := of_decide_eq_false hb2
  have h3 := of_decide_eq_false hb3
  have h4 := of_decide_eq_false hb4
  have h5 := of_decide_eq_false hb5
  refine needT_wp (fun p hp => ?_) ?_
  · simp only [List.mem_cons, List.not_mem_nil, or_false] at hp
    rcases hp with rfl | rfl | rfl | rfl <;> omega
  · obtain ⟨e1, e2, e3⟩ := expS_ok k d (n := m) (by omega) (by omega)
    obtain ⟨f1, f2, f3⟩ := expS_ok k d (n := n) (by omega) (by omega)
    unfold bgT
    rw [e2, f2, e3, f3, e1, f1]
    refine TT.br_t rfl (TT.br_t rfl (TT.br_t ?_ (TT.br_t ?_ (needT_wp (fun p hp => ?_) (TT.br_t ?_ rfl)))))
    · rw [beq_iff_eq]; omega
    · rw [beq_iff_eq]; omega
    · simp only [List.mem_cons, List.not_mem_nil, or_false] at hp
      rcases hp with rfl | rfl | rfl <;> omega
    · rw [show Int.toNat 0 = 0 from rfl, exp_begin k d (by omega) (by omega)]
      exact beq_self_eq_true _
end Go.Proofs.Ytihmhnfjdkkbgaa
