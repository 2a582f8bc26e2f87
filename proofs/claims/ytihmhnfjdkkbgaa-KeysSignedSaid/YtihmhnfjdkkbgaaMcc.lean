/- The walk of the package mac and of cressetref02: so many bytes of a key. -/
import Derived.Test.YtihmhnfjdkkbgaaMcb
import Derived.Test.YtihmhnfjdkkbgaaSvb
noncomputable section
namespace Go.Proofs.Ytihmhnfjdkkbgaa
open Go Go.RowKit RX Sh
set_option linter.unusedSimpArgs false
set_option maxRecDepth 10000000
/-- The tags, one by one; each but the first one takes the one ahead of it in. -/
def tB (k f : ByteArray) : Nat → ByteArray
  | 0 => .empty
  | j + 1 => mac32 k (tB k f j ++ f ++ strOfNums [IntKind.u8.wrap ((j + 1 : Nat) : Int)])
/-- So many tags together. -/
def oB (k f : ByteArray) : Nat → ByteArray
  | 0 => .empty
  | j + 1 => oB k f j ++ tB k f (j + 1)
theorem tB_size (k f : ByteArray) (j : Nat) : (tB k f j).size ≤ 32 := by
  cases j with
  | zero => exact Nat.zero_le _
  | succ j => exact Nat.le_of_eq (mac32_size _ _)
theorem oB_size (k f : ByteArray) : ∀ j, (oB k f j).size = 32 * j
  | 0 => rfl
  | j + 1 => by rw [oB, ByteArray.size_append, oB_size k f j, tB, mac32_size]; omega
def rndsE (n : Int) : Nat := (n.toNat + 31) / 32
def expS (k f : ByteArray) (n : Int) : ByteArray := bif decide (n < 0) then .empty else bif decide (n > 8160) then .empty else (oB k f (rndsE n)).extract 0 n.toNat
def expE (n : Int) : Int := bif decide (n < 0) then 1 else bif decide (n > 8160) then 13 else 0
def expT (k f : ByteArray) (n : Int) : TV := .tup [.one (.str (expS k f n)), .one (.int .i64 (expE n))]
def expOut (ds : List D) : List Prop × TV := ([(dS ds 0).size ≤ 1099511627776, (dS ds 1).size ≤ 274877906944], expT (dS ds 0) (dS ds 1) (dI ds 2))
/-- What is looked at of a state at the loop's head. -/
def TE (k f : ByteArray) (n : Int) (L : List Int) (t : ByteArray) (i : Int) : St := ⟨tmL 39 [(0, .sv (.one (.str k))), (1, .sv (.one (.str f))), (2, .sv (.one (.int .i64 n))), (8, .sv (.one (.sq 0 L.length))), (9, .sv (.one (.str t))), (10, .sv (.one (.int .u8 i)))], [.seq 5 .u8 L]⟩
def shE (st : St) : St := cut 1 (nameT 8 0 5 .u8 (grow 1 (mask [0, 1, 2, 8, 9, 10] [0, 1, 2, 9, 10] st)))
theorem hwE : Weak NoS shE := Weak.comp (f := fun st => nameT 8 0 5 .u8 (grow 1 (mask [0, 1, 2, 8, 9, 10] [0, 1, 2, 9, 10] st))) (g := cut 1) (Weak.comp (f := fun st => grow 1 (mask [0, 1, 2, 8, 9, 10] [0, 1, 2, 9, 10] st)) (g := nameT 8 0 5 .u8) (Weak.comp (f := mask [0, 1, 2, 8, 9, 10] [0, 1, 2, 9, 10]) (g := grow 1) (mask_weak NoS [0, 1, 2, 8, 9, 10] [0, 1, 2, 9, 10]) (grow_weak NoS 1)) (nameT_weak (t := 8) (tgt := 0) (e := 5) (k := .u8) fun S h => h 0)) (cut_weak fun S h m k hm => by have := h m; rw [this] at hm; cases hm)
def nxE (k f t : ByteArray) (i : Int) : ByteArray := mac32 k (t ++ f ++ strOfNums [i])
def needsE (k f t : ByteArray) (i : Int) (L : List Int) : List Prop := [t.size + f.size ≤ 9223372036854775807, (t ++ f).size + (strOfNums [i]).size ≤ 9223372036854775807, k.size ≤ 1099511627776, (t ++ f ++ strOfNums [i]).size ≤ 549755813888, (L ++ strNums (nxE k f t i)).length ≤ 8796093022208, L.length = L.length]
theorem roundE (k f : ByteArray) (n : Int) (L : List Int) (t : ByteArray) (i : Int) : (exec Try.prog [ctTag] [] [] 0 (loopAt (bodyOf Try.f36) 8) (TE k f n L t i)).shape shE shE =
    .br (decide ((L.length : Int) < n)) (needs (needsE k f t i L) (.leaf .normal (TE k f n (L ++ strNums (nxE k f t i)) (nxE k f t i) (IntKind.u8.wrap (i + 1))))) (.leaf (.exit 1) (TE k f n L t i)) := by kernel_rfl
theorem needs_wpE {K : Ex → St → Prop} : ∀ {l : List Prop} {t : Tree}, (∀ p ∈ l, p) → t.wp K → (needs l t).wp K
  | [], _, _, h => h
  | p :: r, _, hl, h => ⟨hl p (by simp), needs_wpE (fun q hq => hl q (by simp [hq])) h⟩
theorem rndsE_le {n : Int} (h : n ≤ 8160) : rndsE n ≤ 255 := by unfold rndsE; omega
theorem u8_step (j : Nat) : IntKind.u8.wrap (IntKind.u8.wrap ((j + 1 : Nat) : Int) + 1) = IntKind.u8.wrap ((j + 1 + 1 : Nat) : Int) := by
  rw [IntKind.wrap_u8, IntKind.wrap_u8, IntKind.wrap_u8]
  omega
def endE (k f : ByteArray) (n : Int) : St := TE k f n (strNums (oB k f (rndsE n))) (tB k f (rndsE n)) (IntKind.u8.wrap ((rndsE n + 1 : Nat) : Int))
theorem loopE (k f : ByteArray) (hk : k.size ≤ 1099511627776) (hf : f.size ≤ 274877906944) (n : Int) (h0 : 0 ≤ n) (h1 : n ≤ 8160) : LpOk Try.prog (loopAt (bodyOf Try.f36) 8) (fun st => .need (shE st = TE k f n [] .empty 1) (.leaf (.exit 1) (endE k f n))) := by
  have hr := rndsE_le h1
  have hrd : rndsE n = (n.toNat + 31) / 32 := rfl
  refine loop_tpl (P := Try.prog) (cts := [ctTag]) (lps := []) (fz := []) (fuel := 0) (sh := shE) (shx := shE) mix (allOk ⟨ctTag_ok, trivial⟩) (.inl rfl) (fun _ _ f hf => by cases hf)
    hwE hwE (fun (j : Nat) => TE k f n (strNums (oB k f j)) (tB k f j) (IntKind.u8.wrap ((j + 1 : Nat) : Int))) (fun j => j ≤ rndsE n) (fun (j : Nat) => rndsE n - j) (fun _ => .leaf (.exit 1) (endE k f n)) ?_ (a0 := 0) (Nat.zero_le _)
  intro j hj K hK
  have hL : (strNums (oB k f j)).length = 32 * j := by rw [strNums_length, oB_size]
  rw [roundE]
  refine ⟨fun hb => ?_, fun hb => ?_⟩
  · have hlt : j < rndsE n := by
      have := of_decide_eq_true hb
      rw [hL] at this
      omega
    have ht := tB_size k f j
    have e1 : nxE k f (tB k f j) (IntKind.u8.wrap ((j + 1 : Nat) : Int)) = tB k f (j + 1) := rfl
    have e2 : strNums (oB k f j) ++ strNums (tB k f (j + 1)) = strNums (oB k f (j + 1)) := (strNums_append _ _).symm
    refine needs_wpE (fun p hp => ?_) ⟨j + 1, ?_, hlt, ?_, hK⟩
    · have hs : (strOfNums [IntKind.u8.wrap ((j + 1 : Nat) : Int)]).size = 1 := by rw [strOfNums_size]; rfl
      have hz : (oB k f (j + 1)).size = 32 * (j + 1) := oB_size k f (j + 1)
      simp only [needsE, e1, e2, List.mem_cons, List.not_mem_nil, or_false, ByteArray.size_append, hs, strNums_length, hz] at hp
      rcases hp with rfl | rfl | rfl | rfl | rfl | rfl <;> first | trivial | omega
    · rw [e1, e2, u8_step]
    · show rndsE n - (j + 1) < rndsE n - j
      omega
  · have hge : j = rndsE n := by
      have := of_decide_eq_false hb
      rw [hL] at this
      omega
    subst hge
    exact hK
theorem onlyE : ((loopsOf (bodyOf Try.f36)).filter fun b => codeKey b == 8) = [loopAt (bodyOf Try.f36) 8] := by kernel_rfl
def lpsE (k f : ByteArray) (n : Int) : List (Nat × (St → Tree)) := [(8, fun st => .need (shE st = TE k f n [] .empty 1) (.leaf (.exit 1) (endE k f n)))]
def argT : TT := .leaf (.tup [.one (.str .empty), .one (.int .i64 1)])
def bigT : TT := .leaf (.tup [.one (.str .empty), .one (.int .i64 13)])
def needsE2 (k f : ByteArray) (n : Int) : List Prop := [TE k f n [] .empty 1 = TE k f n [] .empty 1, (0 : Int) ≤ 0, 0 ≤ n, n ≤ ((strNums (oB k f (rndsE n))).length : Int), n.toNat ≤ (strNums (oB k f (rndsE n))).length]
def takeS (L : List Int) (n : Int) : ByteArray := strOfNums (List.take (n.toNat - Int.toNat 0) (List.drop (Int.toNat 0) L))
theorem strNums_take (s : ByteArray) (m : Nat) (h : m ≤ s.size) : strOfNums ((strNums s).take m) = s.extract 0 m := by
  have hl : (s.extract 0 m).size = m := by rw [ByteArray.size_extract]; omega
  have e : strNums s = strNums (s.extract 0 m) ++ strNums (s.extract m s.size) := by
    rw [← strNums_append]
    congr 1
    refine str_ext ?_ fun i hi => ?_
    · rw [ByteArray.size_append, hl, ByteArray.size_extract]; omega
    · by_cases c : i < m
      · rw [sbyte_append_left (by omega), sbyte_extract (by omega)]
        exact congrArg (fun j : Nat => sbyte s (j : Int)) (by omega)
      · rw [sbyte_append_right (by omega), hl, sbyte_extract (by omega)]
        exact congrArg (fun j : Nat => sbyte s (j : Int)) (by omega)
  rw [e, List.take_left' (by rw [strNums_length, hl]), str_nums]
theorem expS_in {k f : ByteArray} {n : Int} (h0 : ¬ n < 0) (h1 : ¬ n > 8160) : expS k f n = (oB k f (rndsE n)).extract 0 n.toNat ∧ expE n = 0 := by
  unfold expS expE
  rw [decide_eq_false h0, decide_eq_false h1]
  exact ⟨rfl, rfl⟩
theorem expS_neg {k f : ByteArray} {n : Int} (h0 : n < 0) : expS k f n = .empty ∧ expE n = 1 := by
  unfold expS expE
  rw [decide_eq_true h0]
  exact ⟨rfl, rfl⟩
theorem expS_big {k f : ByteArray} {n : Int} (h0 : ¬ n < 0) (h1 : n > 8160) : expS k f n = .empty ∧ expE n = 13 := by
  unfold expS expE
  rw [decide_eq_false h0, decide_eq_true h1]
  exact ⟨rfl, rfl⟩
theorem exp_wp {k f : ByteArray} {n : Int} {t : TT} (h : ¬ n < 0 → ¬ n > 8160 → t.wp (fun x => x = .tup [.one (.str ((oB k f (rndsE n)).extract 0 n.toNat)), .one (.int .i64 0)])) : TT.wp (.br (decide (n < 0)) argT (.br (decide (n > 8160)) bigT t)) (fun x => x = (expT k f n).norm) := by
  by_cases c0 : n < 0
  · obtain ⟨e1, e2⟩ := expS_neg (k := k) (f := f) c0
    refine TT.br_t (decide_eq_true c0) ?_
    unfold expT
    rw [e1, e2]
    rfl
  · refine TT.br_f (decide_eq_false c0) ?_
    by_cases c1 : n > 8160
    · obtain ⟨e1, e2⟩ := expS_big (k := k) (f := f) c0 c1
      refine TT.br_t (decide_eq_true c1) ?_
      unfold expT
      rw [e1, e2]
      rfl
    · obtain ⟨e1, e2⟩ := expS_in (k := k) (f := f) c0 c1
      refine TT.br_f (decide_eq_false c1) ?_
      unfold expT
      rw [e1, e2]
      exact h c0 c1
theorem rnds_big {n : Int} : n ≤ ((32 * rndsE n : Nat) : Int) ∧ n.toNat ≤ 32 * rndsE n := by
  unfold rndsE
  omega
def ctExpand : Ct := shCt 36 [.str, .str, .num .i64] expOut
theorem ctExpand_ok : CtOk Try.prog ctExpand :=
  runCtL_ok (cts := [ctTag]) (fz := []) (fuel := 10) mix (allOk ⟨ctTag_ok, trivial⟩) Try.func36 (c := bodyOf Try.f36) (by kernel_rfl) (by kernel_rfl) (fun _ => rfl) fun ds h hn => match ds, h, hn with
    | [.S k, .S f, .I n], h, hn => by
      have hk : k.size ≤ 1099511627776 := hn _ (List.mem_cons_self ..)
      have hf : f.size ≤ 274877906944 := hn _ (by simp [expOut, dS])
      by_cases c : 0 ≤ n ∧ n ≤ 8160
      · refine ⟨lpsE k f n, lpsOk (c := bodyOf Try.f36) (lps := lpsE k f n) ⟨fun body hb hk' => ?_, trivial⟩, _, viewArgs_is h, ?_⟩
        · rw [loopAt_is onlyE hb hk']
          exact loopE k f hk hf n c.1 c.2
        · have hr : runC Try.prog [ctTag] (lpsE k f n) [] 10 Try.f36 (bodyOf Try.f36) (viewArgs [.str, .str, .num .i64] [.S k, .S f, .I n] h) =
            .br (decide (n < 0)) argT (.br (decide (n > 8160)) bigT (needT (needsE2 k f n) (.leaf (.tup [.one (.str (takeS (strNums (oB k f (rndsE n))) n)), .one (.int .i64 0)])))) := by kernel_rfl
          rw [hr]
          refine exp_wp fun _ _ => needT_wp (fun p hp => ?_) ?_
          · have hz : (strNums (oB k f (rndsE n))).length = 32 * rndsE n := by rw [strNums_length, oB_size]
            have hb := rnds_big (n := n)
            simp only [needsE2, List.mem_cons, List.not_mem_nil, or_false, hz] at hp
            rcases hp with rfl | rfl | rfl | rfl | rfl
            all_goals first | trivial | omega
          · have e : takeS (strNums (oB k f (rndsE n))) n = (oB k f (rndsE n)).extract 0 n.toNat := strNums_take _ _ (by rw [oB_size]; exact rnds_big.2)
            rw [e]
            rfl
      · refine ⟨lpStuck (bodyOf Try.f36), lpStuck_ok, _, viewArgs_is h, ?_⟩
        have hr : runC Try.prog [ctTag] (lpStuck (bodyOf Try.f36)) [] 10 Try.f36 (bodyOf Try.f36) (viewArgs [.str, .str, .num .i64] [.S k, .S f, .I n] h) =
            .br (decide (n < 0)) argT (.br (decide (n > 8160)) bigT .stuck) := by kernel_rfl
        rw [hr]
        exact exp_wp fun c0 c1 => (c ⟨by omega, by omega⟩).elim
/-! ### The reference's -/
def TEr (k f : ByteArray) (n : Int) (o t : ByteArray) (i : Int) : St := ⟨tmL 40 [(0, .sv (.one (.str k))), (1, .sv (.one (.str f))), (2, .sv (.one (.int .i64 n))), (8, .sv (.one (.str o))), (9, .sv (.one (.str t))), (10, .sv (.one (.int .i64 i)))], []⟩
def shEr (st : St) : St := cut 0 (mask [0, 1, 2, 8, 9, 10] [0, 1, 2, 8, 9, 10] st)
theorem hwEr : Weak NoS shEr := Weak.comp (f := mask [0, 1, 2, 8, 9, 10] [0, 1, 2, 8, 9, 10]) (g := cut 0) (mask_weak NoS [0, 1, 2, 8, 9, 10] [0, 1, 2, 8, 9, 10]) (cut_weak fun S h m k hm => by have := h m; rw [this] at hm; cases hm)
def needsEr (k f o t : ByteArray) (i : Int) : List Prop := [t.size + f.size ≤ 9223372036854775807, (t ++ f).size + (strOfNums [IntKind.u8.wrap i]).size ≤ 9223372036854775807, k.size ≤ 1099511627776, (t ++ f ++ strOfNums [IntKind.u8.wrap i]).size ≤ 549755813888, o.size + (nxE k f t (IntKind.u8.wrap i)).size ≤ 9223372036854775807]
theorem roundEr (k f : ByteArray) (n : Int) (o t : ByteArray) (i : Int) : (exec Try.prog [ctMacR32] [] [] 0 (loopAt (bodyOf Try.f37) 8) (TEr k f n o t i)).shape shEr shEr =
    .br (decide ((o.size : Int) < n)) (needs (needsEr k f o t i) (.leaf .normal (TEr k f n (o ++ nxE k f t (IntKind.u8.wrap i)) (nxE k f t (IntKind.u8.wrap i)) (IntKind.i64.wrap (i + 1))))) (.leaf (.exit 0) (TEr k f n o t i)) := by kernel_rfl
def endEr (k f : ByteArray) (n : Int) : St := TEr k f n (oB k f (rndsE n)) (tB k f (rndsE n)) ((rndsE n + 1 : Nat) : Int)
theorem loopEr (k f : ByteArray) (hk : k.size ≤ 1099511627776) (hf : f.size ≤ 274877906944) (n : Int) (h0 : 0 ≤ n) (h1 : n ≤ 8160) : LpOk Try.prog (loopAt (bodyOf Try.f37) 8) (fun st => .need (shEr st = TEr k f n .empty .empty 1) (.leaf (.exit 0) (endEr k f n))) := by
  have hr := rndsE_le h1
  have hrd : rndsE n = (n.toNat + 31) / 32 := rfl
  refine loop_tpl (P := Try.prog) (cts := [ctMacR32]) (lps := []) (fz := []) (fuel := 0) (sh := shEr) (shx := shEr) mix (allOk ⟨ctMacR32_ok, trivial⟩) (.inl rfl) (fun _ _ f hf => by cases hf)
    hwEr hwEr (fun (j : Nat) => TEr k f n (oB k f j) (tB k f j) ((j + 1 : Nat) : Int)) (fun j => j ≤ rndsE n) (fun (j : Nat) => rndsE n - j) (fun _ => .leaf (.exit 0) (endEr k f n)) ?_ (a0 := 0) (Nat.zero_le _)
  intro j hj K hK
  have hL : (oB k f j).size = 32 * j := oB_size k f j
  rw [roundEr]
  refine ⟨fun hb => ?_, fun hb => ?_⟩
  · have hlt : j < rndsE n := by
      have := of_decide_eq_true hb
      rw [hL] at this
      omega
    have ht := tB_size k f j
    have e1 : nxE k f (tB k f j) (IntKind.u8.wrap ((j + 1 : Nat) : Int)) = tB k f (j + 1) := rfl
    refine needs_wpE (fun p hp => ?_) ⟨j + 1, ?_, hlt, ?_, hK⟩
    · have hs : (strOfNums [IntKind.u8.wrap ((j + 1 : Nat) : Int)]).size = 1 := by rw [strOfNums_size]; rfl
      have hz : (tB k f (j + 1)).size ≤ 32 := tB_size k f (j + 1)
      simp only [needsEr, e1, List.mem_cons, List.not_mem_nil, or_false, ByteArray.size_append, hs, hL] at hp
      rcases hp with rfl | rfl | rfl | rfl | rfl <;> first | trivial | omega
    · rw [e1, IntWalk.i64_in _ (by omega)]
      rfl
    · show rndsE n - (j + 1) < rndsE n - j
      omega
  · have hge : j = rndsE n := by
      have := of_decide_eq_false hb
      rw [hL] at this
      omega
    subst hge
    exact hK
theorem onlyEr : ((loopsOf (bodyOf Try.f37)).filter fun b => codeKey b == 8) = [loopAt (bodyOf Try.f37) 8] := by kernel_rfl
def lpsEr (k f : ByteArray) (n : Int) : List (Nat × (St → Tree)) := [(8, fun st => .need (shEr st = TEr k f n .empty .empty 1) (.leaf (.exit 0) (endEr k f n)))]
def needsEr2 (k f : ByteArray) (n : Int) : List Prop := [TEr k f n .empty .empty 1 = TEr k f n .empty .empty 1, (0 : Int) ≤ 0, 0 ≤ n, n ≤ ((oB k f (rndsE n)).size : Int)]
def ctExpandR : Ct := shCt 37 [.str, .str, .num .i64] expOut
theorem ctExpandR_ok : CtOk Try.prog ctExpandR :=
  runCtL_ok (cts := [ctMacR32]) (fz := []) (fuel := 10) mix (allOk ⟨ctMacR32_ok, trivial⟩) Try.func37 (c := bodyOf Try.f37) (by kernel_rfl) (by kernel_rfl) (fun _ => rfl) fun ds h hn => match ds, h, hn with
    | [.S k, .S f, .I n], h, hn => by
      have hk : k.size ≤ 1099511627776 := hn _ (List.mem_cons_self ..)
      have hf : f.size ≤ 274877906944 := hn _ (by simp [expOut, dS])
      by_cases c : 0 ≤ n ∧ n ≤ 8160
      · refine ⟨lpsEr k f n, lpsOk (c := bodyOf Try.f37) (lps := lpsEr k f n) ⟨fun body hb hk' => ?_, trivial⟩, _, viewArgs_is h, ?_⟩
        · rw [loopAt_is onlyEr hb hk']
          exact loopEr k f hk hf n c.1 c.2
        · have hr : runC Try.prog [ctMacR32] (lpsEr k f n) [] 10 Try.f37 (bodyOf Try.f37) (viewArgs [.str, .str, .num .i64] [.S k, .S f, .I n] h) =
            .br (decide (n < 0)) argT (.br (decide (n > 8160)) bigT (needT (needsEr2 k f n) (.leaf (.tup [.one (.str ((oB k f (rndsE n)).extract (Int.toNat 0) n.toNat)), .one (.int .i64 0)])))) := by kernel_rfl
          rw [hr]
          refine exp_wp fun _ _ => needT_wp (fun p hp => ?_) rfl
          have hb := rnds_big (n := n)
          simp only [needsEr2, List.mem_cons, List.not_mem_nil, or_false, oB_size] at hp
          rcases hp with rfl | rfl | rfl | rfl
          all_goals first | trivial | omega
      · refine ⟨lpStuck (bodyOf Try.f37), lpStuck_ok, _, viewArgs_is h, ?_⟩
        have hr : runC Try.prog [ctMacR32] (lpStuck (bodyOf Try.f37)) [] 10 Try.f37 (bodyOf Try.f37) (viewArgs [.str, .str, .num .i64] [.S k, .S f, .I n] h) =
            .br (decide (n < 0)) argT (.br (decide (n > 8160)) bigT .stuck) := by kernel_rfl
        rw [hr]
        exact exp_wp fun c0 c1 => (c ⟨by omega, by omega⟩).elim
end Go.Proofs.Ytihmhnfjdkkbgaa
