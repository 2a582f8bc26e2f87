/- The statements of layer 17. -/
import Derived.Test.YtihmhnfjdkkbgaaKyb
noncomputable section
namespace Go.Proofs.Ytihmhnfjdkkbgaa
open Go Go.RowKit RX Sh
set_option linter.unusedSimpArgs false
set_option maxRecDepth 10000000
theorem early_ex : earlyS.extract 0 4 = ⟨#[51, 173, 10, 28]⟩ := by
  have e : key32 .empty = .empty := key32_short (by decide)
  unfold earlyS mac32
  rw [e]
  unfold Sh32.dgS Sh32.dgL
  decide +kernel
def ctAwakeK : Ct := shCt 43 [] fun _ => ([], bool1 true)
theorem ctAwakeK_ok : CtOk Try.prog ctAwakeK :=
  runCtL_ok (cts := [ctEarly, ctTraffic]) (fz := []) (fuel := 10) mix (allOk ⟨ctEarly_ok, ctTraffic_ok, trivial⟩) Try.func43 (c := bodyOf Try.f43) (by kernel_rfl) (by kernel_rfl) (fun _ => rfl) fun ds h _ => match ds, h with
    | [], h => by
      refine ⟨[], (fun _ _ _ hg => by cases hg), [], fun _ _ h => h, ?_⟩
      have hr : runC Try.prog [ctEarly, ctTraffic] [] [] 10 Try.f43 (bodyOf Try.f43) [] =
          .need (earlyS.size ≤ 1099511627776) (.br ((earlyS.extract 0 4).toList == (⟨#[51, 173, 10, 28]⟩ : ByteArray).toList) (.leaf (bool1 (trE 4866 == 1))) noS) := by kernel_rfl
      rw [hr, early_ex]
      exact ⟨early_le, TT.br_t (beq_self_eq_true _) rfl⟩
def ctsK : List Ct := [ctEarly, ctEarlyR, ctSecret, ctSecretR, ctHand, ctHandR, ctMast, ctMastR, ctTraffic, ctTrafficR, ctNext, ctNextR, ctTagK, ctTagR, ctSigned, ctSignedR, ctAwakeK]
theorem ctsK_ok : ∀ c ∈ ctsK, CtOk Try.prog c := allOk ⟨ctEarly_ok, ctEarlyR_ok, ctSecret_ok, ctSecretR_ok, ctHand_ok, ctHandR_ok, ctMast_ok, ctMastR_ok, ctTraffic_ok, ctTrafficR_ok, ctNext_ok, ctNextR_ok, ctTagK_ok, ctTagR_ok, ctSigned_ok, ctSignedR_ok, ctAwakeK_ok, trivial⟩
/-- A text is itself. -/
def itB (s : ByteArray) : Bool := s.toList == s.toList
theorem itB_ok (s : ByteArray) : itB s = true := beq_self_eq_true _
def K12 : Nat := 1099511627776
theorem le12 {n : Nat} (h : ¬ (n : Int) > 1000) : n ≤ 1099511627776 := by omega
theorem le11 {n : Nat} (h : ¬ (n : Int) > 1000) : n ≤ 549755813888 := by omega
theorem keysSecrets_calls (a b c : ByteArray) (w : World) : Calls Try.prog 19 ⟨[.string a, .string b, .string c]⟩ w (RetT w noaway (bool1 true)) := by
  have hr : runC Try.prog ctsK [] [] 70 Try.f19 (bodyOf Try.f19) [.one (.str a), .one (.str b), .one (.str c)] =
      .br (decide ((a.size : Int) > 1000)) yesS (.br (decide ((b.size : Int) > 1000)) yesS (.br (decide ((c.size : Int) > 1000)) yesS (needT [a.size ≤ 1099511627776, c.size ≤ 1099511627776, a.size ≤ 1099511627776, c.size ≤ 1099511627776]
        (.br (itB (lblS a b (Sh32.dgS c) 32)) (.br (lblE b (Sh32.dgS c) 32 == lblE b (Sh32.dgS c) 32) yesS noS) noS)))) := by kernel_rfl
  refine calls_of_runT (cts := ctsK) (lps := []) (fz := []) (fuel := 70) mix ctsK_ok Try.func19 (c := bodyOf Try.f19) (by kernel_rfl) (fun _ _ g hg => by cases hg) (args := [.one (.str a), .one (.str b), .one (.str c)]) rfl ?_ (fun k hk => hk.elim) ⟨rfl, rfl, rfl, trivial⟩
  rw [hr]
  refine ⟨fun _ => rfl, fun h1 => ⟨fun _ => rfl, fun _ => ⟨fun _ => rfl, fun h3 => ?_⟩⟩⟩
  have ha := le12 (of_decide_eq_false h1)
  have hc := le12 (of_decide_eq_false h3)
  exact ⟨ha, hc, ha, hc, TT.br_t (itB_ok _) (TT.br_t (beq_self_eq_true _) rfl)⟩
theorem keysSteps_calls (a : ByteArray) (w : World) : Calls Try.prog 21 ⟨[.string a]⟩ w (RetT w noaway (bool1 true)) := by
  have hr : runC Try.prog ctsK [] [] 70 Try.f21 (bodyOf Try.f21) [.one (.str a)] =
      .br (decide ((a.size : Int) > 1000)) yesS (.need (a.size ≤ 549755813888) (.br (itB earlyS) (.need (a.size ≤ 549755813888) (.br (itB (stepS earlyS a)) (needT [(stepS earlyS a).size ≤ 1099511627776, (stepS earlyS a).size ≤ 1099511627776]
        (.br (itB (stepS (stepS earlyS a) z32)) (needT [a.size ≤ 1099511627776, a.size ≤ 1099511627776] (.br (itB (stepS a z32)) yesS noS)) noS)) noS)) noS)) := by kernel_rfl
  refine calls_of_runT (cts := ctsK) (lps := []) (fz := []) (fuel := 70) mix ctsK_ok Try.func21 (c := bodyOf Try.f21) (by kernel_rfl) (fun _ _ g hg => by cases hg) (args := [.one (.str a)]) rfl ?_ (fun k hk => hk.elim) ⟨rfl, trivial⟩
  rw [hr]
  refine ⟨fun _ => rfl, fun h1 => ?_⟩
  have ha := le12 (of_decide_eq_false h1)
  have hb := le11 (of_decide_eq_false h1)
  have hs : (stepS earlyS a).size ≤ 1099511627776 := by rw [stepS_size]; decide
  exact ⟨hb, TT.br_t (itB_ok _) ⟨hb, TT.br_t (itB_ok _) ⟨hs, hs, TT.br_t (itB_ok _) ⟨ha, ha, TT.br_t (itB_ok _) rfl⟩⟩⟩⟩
theorem keysTraffic_calls (n : Int) (a : ByteArray) (w : World) : Calls Try.prog 17 ⟨[.int .i64 n, .string a]⟩ w (RetT w noaway (bool1 true)) := by
  have hr : runC Try.prog ctsK [] [] 70 Try.f17 (bodyOf Try.f17) [.one (.int .i64 n), .one (.str a)] =
      .br (decide ((a.size : Int) > 1000)) yesS (needT [a.size ≤ 1099511627776, a.size ≤ 1099511627776] (.br (itB (trK n a)) (.br (itB (trI n a)) (.br (trE n == trE n) (needT [a.size ≤ 1099511627776, a.size ≤ 1099511627776] (.br (itB (plS a updW 32)) yesS noS)) noS) noS) noS)) := by kernel_rfl
  refine calls_of_runT (cts := ctsK) (lps := []) (fz := []) (fuel := 70) mix ctsK_ok Try.func17 (c := bodyOf Try.f17) (by kernel_rfl) (fun _ _ g hg => by cases hg) (args := [.one (.int .i64 n), .one (.str a)]) rfl ?_ (fun k hk => hk.elim) ⟨rfl, rfl, trivial⟩
  rw [hr]
  refine ⟨fun _ => rfl, fun h1 => ?_⟩
  have ha := le12 (of_decide_eq_false h1)
  exact ⟨ha, ha, TT.br_t (itB_ok _) (TT.br_t (itB_ok _) (TT.br_t (beq_self_eq_true _) ⟨ha, ha, TT.br_t (itB_ok _) rfl⟩))⟩
theorem keysTags_calls (a b : ByteArray) (c : Bool) (w : World) : Calls Try.prog 23 ⟨[.string a, .string b, .bool c]⟩ w (RetT w noaway (bool1 true)) := by
  have hr : runC Try.prog ctsK [] [] 70 Try.f23 (bodyOf Try.f23) [.one (.str a), .one (.str b), .one (.bool c)] =
      .br (decide ((a.size : Int) > 1000)) yesS (.br (decide ((b.size : Int) > 1000)) yesS (needT [a.size ≤ 1099511627776, b.size ≤ 1099511627776, a.size ≤ 1099511627776, b.size ≤ 1099511627776]
        (.br (itB (tagS a b)) (needT [b.size ≤ 1099511627776, b.size ≤ 1099511627776] (.br (itB (sgnS c b)) yesS noS)) noS))) := by kernel_rfl
  refine calls_of_runT (cts := ctsK) (lps := []) (fz := []) (fuel := 70) mix ctsK_ok Try.func23 (c := bodyOf Try.f23) (by kernel_rfl) (fun _ _ g hg => by cases hg) (args := [.one (.str a), .one (.str b), .one (.bool c)]) rfl ?_ (fun k hk => hk.elim) ⟨rfl, rfl, rfl, trivial⟩
  rw [hr]
  refine ⟨fun _ => rfl, fun h1 => ⟨fun _ => rfl, fun h2 => ?_⟩⟩
  have ha := le12 (of_decide_eq_false h1)
  have hb := le12 (of_decide_eq_false h2)
  exact ⟨ha, hb, ha, hb, TT.br_t (itB_ok _) ⟨hb, hb, TT.br_t (itB_ok _) rfl⟩⟩
theorem keysNext_calls (a : ByteArray) (w : World) : Calls Try.prog 18 ⟨[.string a]⟩ w (RetT w noaway (bool1 true)) := by
  have hr : runC Try.prog ctsK [] [] 70 Try.f18 (bodyOf Try.f18) [.one (.str a)] =
      .br (decide ((a.size : Int) > 1000)) yesS (needT [a.size ≤ 1099511627776, a.size ≤ 1099511627776] (.br (itB (plS a updW 32)) yesS noS)) := by kernel_rfl
  refine calls_of_runT (cts := ctsK) (lps := []) (fz := []) (fuel := 70) mix ctsK_ok Try.func18 (c := bodyOf Try.f18) (by kernel_rfl) (fun _ _ g hg => by cases hg) (args := [.one (.str a)]) rfl ?_ (fun k hk => hk.elim) ⟨rfl, trivial⟩
  rw [hr]
  refine ⟨fun _ => rfl, fun h1 => ?_⟩
  have ha := le12 (of_decide_eq_false h1)
  exact ⟨ha, ha, TT.br_t (itB_ok _) rfl⟩
theorem keysMaster_calls (a : ByteArray) (w : World) : Calls Try.prog 20 ⟨[.string a]⟩ w (RetT w noaway (bool1 true)) := by
  have hr : runC Try.prog ctsK [] [] 70 Try.f20 (bodyOf Try.f20) [.one (.str a)] =
      .br (decide ((a.size : Int) > 1000)) yesS (needT [a.size ≤ 1099511627776, a.size ≤ 1099511627776] (.br (itB (stepS a z32)) yesS noS)) := by kernel_rfl
  refine calls_of_runT (cts := ctsK) (lps := []) (fz := []) (fuel := 70) mix ctsK_ok Try.func20 (c := bodyOf Try.f20) (by kernel_rfl) (fun _ _ g hg => by cases hg) (args := [.one (.str a)]) rfl ?_ (fun k hk => hk.elim) ⟨rfl, trivial⟩
  rw [hr]
  refine ⟨fun _ => rfl, fun h1 => ?_⟩
  have ha := le12 (of_decide_eq_false h1)
  exact ⟨ha, ha, TT.br_t (itB_ok _) rfl⟩
theorem keysSigned_calls (a : ByteArray) (c : Bool) (w : World) : Calls Try.prog 22 ⟨[.string a, .bool c]⟩ w (RetT w noaway (bool1 true)) := by
  have hr : runC Try.prog ctsK [] [] 70 Try.f22 (bodyOf Try.f22) [.one (.str a), .one (.bool c)] =
      .br (decide ((a.size : Int) > 1000)) yesS (needT [a.size ≤ 1099511627776, a.size ≤ 1099511627776] (.br (itB (sgnS c a)) yesS noS)) := by kernel_rfl
  refine calls_of_runT (cts := ctsK) (lps := []) (fz := []) (fuel := 70) mix ctsK_ok Try.func22 (c := bodyOf Try.f22) (by kernel_rfl) (fun _ _ g hg => by cases hg) (args := [.one (.str a), .one (.bool c)]) rfl ?_ (fun k hk => hk.elim) ⟨rfl, rfl, trivial⟩
  rw [hr]
  refine ⟨fun _ => rfl, fun h1 => ?_⟩
  have ha := le12 (of_decide_eq_false h1)
  exact ⟨ha, ha, TT.br_t (itB_ok _) rfl⟩
/-! ### How many bytes -/
theorem lbl_in (k : ByteArray) {l x : ByteArray} {n : Int} (h0 : 0 ≤ n) (h1 : n ≤ 1000) (hl : l.size ≤ 249) (hx : x.size ≤ 255) : (lblS k l x n).size = n.toNat ∧ lblE l x n = 0 := by
  have c0 : ¬ n < 0 := by omega
  have hb : lblBad l x n = false := by
    unfold lblBad
    rw [decide_eq_false (by omega), decide_eq_false (by omega), decide_eq_false (by omega)]
    rfl
  obtain ⟨_, _, e3⟩ := expS_ok k (infoL l x n) h0 h1
  unfold lblS lblE
  rw [decide_eq_false c0, hb]
  exact ⟨e3, rfl⟩
def chW : ByteArray := ⟨#[99, 32, 104, 115, 32, 116, 114, 97, 102, 102, 105, 99]⟩
def shW : ByteArray := ⟨#[115, 32, 104, 115, 32, 116, 114, 97, 102, 102, 105, 99]⟩
def secB (s l a : ByteArray) : ByteArray := lblS s l (Sh32.dgS a) 32
def noT : List Bool → TT → TT
  | [], t => t
  | b :: r, t => .br b noS (noT r t)
theorem noT_wp {K : TV → Prop} {t : TT} : ∀ {l : List Bool}, (∀ b ∈ l, b = false) → t.wp K → (noT l t).wp K
  | [], _, h => h
  | b :: r, hl, h => TT.br_f (hl b (List.mem_cons_self ..)) (noT_wp (fun c hc => hl c (List.mem_cons_of_mem _ hc)) h)
def sg1 (a : ByteArray) : Bool := ((sgnS true a).size : Int) == 130
def sg2 (a : ByteArray) : Bool := !((sgnS true a).toList == (sgnS false a).toList)
def sg3 (a b : ByteArray) : Bool := ((sgnS true a).extract (Int.toNat 0) (Int.toNat 98)).toList == ((sgnS true b).extract (Int.toNat 0) (Int.toNat 98)).toList
def sgN (a b : ByteArray) : List Prop := [(0 : Int) ≤ 0, (0 : Int) ≤ 98, (98 : Int) ≤ (sgnS true a).size, b.size ≤ 1099511627776, (0 : Int) ≤ 0, (0 : Int) ≤ 98, (98 : Int) ≤ (sgnS true b).size]
def sgT (a b : ByteArray) : TT := .br (sg1 a) (.br (sg2 a) (.br (sg3 a b) (needT ([sg1 a = true, a.size ≤ 1099511627776, sg2 a = true] ++ sgN a b ++ [sg3 a b = true]) yesS) (needT ([sg1 a = true, a.size ≤ 1099511627776, sg2 a = true] ++ sgN a b ++ [sg3 a b = false]) noS))
  (needT [sg1 a = true, a.size ≤ 1099511627776, sg2 a = false] noS)) (needT [sg1 a = false] noS)
theorem sgn_head (b : Bool) (a : ByteArray) : (sgnS b a).extract 0 98 = headW b := by
  refine str_ext ?_ fun i hi => ?_
  · rw [ByteArray.size_extract, sgnS_size, headW_size]; omega
  · rw [ByteArray.size_extract, sgnS_size] at hi
    rw [sbyte_extract (by omega), Nat.zero_add]
    unfold sgnS
    rw [sbyte_append_left (by rw [headW_size]; omega)]
theorem sgT_wp {a b : ByteArray} (ha : a.size ≤ 1099511627776) (hb : b.size ≤ 1099511627776) : (sgT a b).wp (fun x => x = bool1 true) := by
  have h1 : sg1 a = true := by unfold sg1; rw [sgnS_size]; rfl
  have h2 : sg2 a = true := by
    unfold sg2
    rw [toList_beq, decide_eq_false]
    · rfl
    · intro e
      have e73 := congrArg (fun s => sbyte s (73 : Nat)) e
      simp only [sgnS] at e73
      rw [sbyte_append_left (by rw [headW_size]; decide), sbyte_append_left (by rw [headW_size]; decide)] at e73
      exact absurd e73 (by decide +kernel)
  have h3 : sg3 a b = true := by
    unfold sg3
    rw [show Int.toNat 0 = 0 from rfl, show Int.toNat 98 = 98 from rfl, sgn_head, sgn_head]
    exact beq_self_eq_true _
  refine TT.br_t h1 (TT.br_t h2 (TT.br_t h3 (needT_wp (fun p hp => ?_) rfl)))
  simp only [sgN, List.mem_append, List.mem_cons, List.not_mem_nil, or_false, sgnS_size] at hp
  rcases hp with ((rfl | rfl | rfl) | (rfl | rfl | rfl | rfl | rfl | rfl | rfl)) | rfl
  all_goals first | assumption | decide
def szT (s a b : ByteArray) : TT := needT [(secB s chW a).size ≤ 1099511627776, (secB s shW a).size ≤ 1099511627776]
  (noT [trE 4867 != 0, trE 4865 != 0, ((trK 4867 (secB s chW a)).size : Int) != 32, ((trI 4867 (secB s chW a)).size : Int) != 12, ((trK 4865 (secB s shW a)).size : Int) != 16, ((trI 4865 (secB s shW a)).size : Int) != 12]
    (.need ((secB s chW a).size ≤ 1099511627776) (noT [((plS (secB s chW a) updW 32).size : Int) != 32] (needT [(secB s chW a).size ≤ 1099511627776, a.size ≤ 1099511627776, a.size ≤ 1099511627776] (sgT a b)))))
def szTop (s a b : ByteArray) : TT := needT [s.size ≤ 1099511627776, a.size ≤ 1099511627776, s.size ≤ 1099511627776, a.size ≤ 1099511627776, s.size ≤ 1099511627776, b.size ≤ 1099511627776]
  (noT [lblE chW (Sh32.dgS a) 32 != 0, lblE shW (Sh32.dgS a) 32 != 0, lblE chW (Sh32.dgS b) 32 != 0, ((secB s chW a).size : Int) != 32, ((secB s shW a).size : Int) != 32, ((secB s chW b).size : Int) != 32]
    (.br (a.toList == b.toList) (.br (!((secB s chW a).toList == (secB s chW b).toList)) noS (szT s a b)) (szT s a b)))
theorem secB_ok (s : ByteArray) {l : ByteArray} (hl : l.size ≤ 249) (a : ByteArray) : (secB s l a).size = 32 ∧ lblE l (Sh32.dgS a) 32 = 0 := lbl_in s (by decide) (by decide) hl (by rw [Sh32.dgS_size]; decide)
theorem plS_in (s : ByteArray) {l : ByteArray} {n : Int} (h0 : 0 ≤ n) (h1 : n ≤ 1000) (hl : l.size ≤ 249) : (plS s l n).size = n.toNat := (lbl_in s h0 h1 hl (by decide)).1
theorem trK_67 (x : ByteArray) : trK 4867 x = plS x keyW 32 := rfl
theorem trI_67 (x : ByteArray) : trI 4867 x = plS x ivW 12 := rfl
theorem trK_65 (x : ByteArray) : trK 4865 x = plS x keyW 16 := rfl
theorem trI_65 (x : ByteArray) : trI 4865 x = plS x ivW 12 := rfl
theorem key_in (x : ByteArray) : (plS x keyW 32).size = 32 ∧ (plS x keyW 16).size = 16 ∧ (plS x ivW 12).size = 12 ∧ (plS x updW 32).size = 32 :=
  ⟨plS_in x (n := 32) (by decide) (by decide) (by decide), plS_in x (n := 16) (by decide) (by decide) (by decide), plS_in x (n := 12) (by decide) (by decide) (by decide), plS_in x (n := 32) (by decide) (by decide) (by decide)⟩
theorem szT_wp {s a b : ByteArray} (ha : a.size ≤ 1099511627776) (hb : b.size ≤ 1099511627776) : (szT s a b).wp (fun x => x = bool1 true) := by
  have hx := (secB_ok s (l := chW) (by decide) a).1
  have hy := (secB_ok s (l := shW) (by decide) a).1
  have lx : (secB s chW a).size ≤ 1099511627776 := by rw [hx]; decide
  have ly : (secB s shW a).size ≤ 1099511627776 := by rw [hy]; decide
  obtain ⟨k1, _, k3, k4⟩ := key_in (secB s chW a)
  obtain ⟨_, m2, m3, _⟩ := key_in (secB s shW a)
  unfold szT
  rw [trK_67, trI_67, trK_65, trI_65, k1, k3, k4, m2, m3]
  refine ⟨lx, ly, noT_wp (fun c hc => ?_) ⟨lx, noT_wp (fun c hc => ?_) ⟨lx, ha, ha, sgT_wp ha hb⟩⟩⟩
  · simp only [List.mem_cons, List.not_mem_nil, or_false] at hc
    rcases hc with rfl | rfl | rfl | rfl | rfl | rfl <;> rfl
  · simp only [List.mem_cons, List.not_mem_nil, or_false] at hc
    rcases hc with rfl
    rfl
theorem keysSizes_calls (s a b : ByteArray) (w : World) : Calls Try.prog 24 ⟨[.string s, .string a, .string b]⟩ w (RetT w noaway (bool1 true)) := by
  have hr : runC Try.prog ctsK [] [] 70 Try.f24 (bodyOf Try.f24) [.one (.str s), .one (.str a), .one (.str b)] =
      .br ((s.size : Int) != 32) yesS (.br (decide ((a.size : Int) > 500)) yesS (.br (decide ((b.size : Int) > 500)) yesS (szTop s a b))) := by kernel_rfl
  refine calls_of_runT (cts := ctsK) (lps := []) (fz := []) (fuel := 70) mix ctsK_ok Try.func24 (c := bodyOf Try.f24) (by kernel_rfl) (fun _ _ g hg => by cases hg) (args := [.one (.str s), .one (.str a), .one (.str b)]) rfl ?_ (fun k hk => hk.elim) ⟨rfl, rfl, rfl, trivial⟩
  rw [hr]
  refine ⟨fun _ => rfl, fun h1 => ⟨fun _ => rfl, fun h2 => ⟨fun _ => rfl, fun h3 => ?_⟩⟩⟩
  have hs : s.size ≤ 1099511627776 := by
    rw [bne_eq_false_iff_eq] at h1
    omega
  have ha : a.size ≤ 1099511627776 := by
    have := of_decide_eq_false h2
    omega
  have hb : b.size ≤ 1099511627776 := by
    have := of_decide_eq_false h3
    omega
  have hx := secB_ok s (l := chW) (by decide) a
  have hy := secB_ok s (l := shW) (by decide) a
  have hz := secB_ok s (l := chW) (by decide) b
  refine ⟨hs, ha, hs, ha, hs, hb, noT_wp (fun c hc => ?_) ⟨fun hab => TT.br_f ?_ (szT_wp ha hb), fun _ => szT_wp ha hb⟩⟩
  · simp only [List.mem_cons, List.not_mem_nil, or_false, hx.1, hx.2, hy.1, hy.2, hz.1, hz.2] at hc
    rcases hc with rfl | rfl | rfl | rfl | rfl | rfl <;> rfl
  · rw [toList_beq] at hab
    have e : a = b := of_decide_eq_true hab
    rw [e, beq_self_eq_true]
    rfl
end Go.Proofs.Ytihmhnfjdkkbgaa
