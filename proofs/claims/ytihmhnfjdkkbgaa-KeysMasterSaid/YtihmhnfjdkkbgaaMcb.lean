/- The walk of the package mac and of cressetref02: Mac of any size, tags, what is extracted. -/
import Derived.Test.YtihmhnfjdkkbgaaMca
noncomputable section
namespace Go.Proofs.Ytihmhnfjdkkbgaa
open Go Go.RowKit RX Sh
set_option linter.unusedSimpArgs false
set_option maxRecDepth 10000000
/-! ### Loops that are not reached -/
def lpStuck (c : Code) : List (Nat × (St → Tree)) := (loopsOf c).map fun b => (codeKey b, fun _ => .stuck)
theorem findLp_stuck {k : Nat} {g : St → Tree} : ∀ {l : List Code}, findLp k (l.map fun b => (codeKey b, fun _ => Tree.stuck)) = some g → g = fun _ => .stuck
  | [], h => by cases h
  | b :: r, h => by
    rw [List.map_cons] at h
    unfold findLp at h
    split at h
    · cases h; rfl
    · exact findLp_stuck h
theorem lpStuck_ok {P : Program} {Sok : (Nat → Option Nat) → Prop} {c : Code} : ∀ body ∈ loopsOf c, ∀ g, findLp (codeKey body) (lpStuck c) = some g → LpOkS P Sok body g := by
  intro body _ g hg
  have e := findLp_stuck hg
  subst e
  intro S B w0 st _ K Q h
  exact h.elim
def ttL : TT → TT
  | .br _ t _ => t
  | t => t
def ttR : TT → TT
  | .br _ _ e => e
  | t => t
def noMac : TT := .leaf (.tup [.one (.str .empty), .one (.int .i64 1)])
theorem ctMacNo_ok : CtOk Try.prog ctMacNo :=
  runCtL_ok (cts := [ctDg, Sh32.ctSum, Sh64.ctSum]) (fz := []) (fuel := 130) mix (allOk ⟨ctDg_ok, Sh32.ctSum_ok, Sh64.ctSum_ok, trivial⟩) Try.func34 (c := bodyOf Try.f34) (by kernel_rfl) (by kernel_rfl) (fun _ => rfl) fun ds h hn => match ds, h, hn with
    | [.I n, .S k, .S d], h, hn => by
      have h1 : n ≠ 32 ∧ n ≠ 64 := hn _ (List.mem_cons_self ..)
      refine ⟨lpStuck (bodyOf Try.f34), lpStuck_ok, _, viewArgs_is h, ?_⟩
      have hr : runC Try.prog [ctDg, Sh32.ctSum, Sh64.ctSum] (lpStuck (bodyOf Try.f34)) [] 130 Try.f34 (bodyOf Try.f34) (viewArgs [.num .i64, .str, .str] [.I n, .S k, .S d] h) =
          .br (n != 32) (.br (n != 64) noMac .stuck) .stuck := by kernel_rfl
      rw [hr]
      exact noMac_wp h1
def ctMacNoR : Ct := shCt 35 [.num .i64, .str, .str] fun ds => ([dI ds 0 ≠ 32 ∧ dI ds 0 ≠ 64], .tup [.one (.str .empty), .one (.lit .i64 1)])
def runNoR (n : Int) (k d : ByteArray) : TT := runC Try.prog [ctPads, Sh32.ctSumR, Sh64.ctSumR] [] [] 10 Try.f35 (bodyOf Try.f35) [.one (.int .i64 n), .one (.str k), .one (.str d)]
theorem ctMacNoR_ok : CtOk Try.prog ctMacNoR :=
  runCtL_ok (cts := [ctPads, Sh32.ctSumR, Sh64.ctSumR]) (fz := []) (fuel := 10) mix (allOk ⟨ctPads_ok, Sh32.ctSumR_ok, Sh64.ctSumR_ok, trivial⟩) Try.func35 (c := bodyOf Try.f35) (by kernel_rfl) (by kernel_rfl) (fun _ => rfl) fun ds h hn => match ds, h, hn with
    | [.I n, .S k, .S d], h, hn => by
      have h1 : n ≠ 32 ∧ n ≠ 64 := hn _ (List.mem_cons_self ..)
      refine ⟨[], (fun _ _ _ hg => by cases hg), _, viewArgs_is h, ?_⟩
      have hr : runC Try.prog [ctPads, Sh32.ctSumR, Sh64.ctSumR] [] [] 10 Try.f35 (bodyOf Try.f35) (viewArgs [.num .i64, .str, .str] [.I n, .S k, .S d] h) =
          .br (n == 32) (ttL (runNoR n k d)) (.br (n == 64) (ttL (ttR (runNoR n k d))) noMac) := by kernel_rfl
      rw [hr]
      exact noMacR_wp h1
/-! ### Mac of any size -/
def macS (n : Int) (k d : ByteArray) : ByteArray := bif n == 32 then mac32 k d else bif n == 64 then mac64 k d else .empty
def macE (n : Int) : Int := bif n == 32 then 0 else bif n == 64 then 0 else 1
def macT (n : Int) (k d : ByteArray) : TV := .tup [.one (.str (macS n k d)), .one (.int .i64 (macE n))]
theorem macS32 (k d : ByteArray) : macS 32 k d = mac32 k d := rfl
theorem macS64 (k d : ByteArray) : macS 64 k d = mac64 k d := rfl
theorem macS_no {n : Int} (h : n ≠ 32 ∧ n ≠ 64) (k d : ByteArray) : macS n k d = .empty ∧ macE n = 1 := by
  have e1 : (n == 32) = false := by simpa using h.1
  have e2 : (n == 64) = false := by simpa using h.2
  unfold macS macE
  rw [e1, e2]
  exact ⟨rfl, rfl⟩
def macOut (ds : List D) : List Prop × TV := ([(dS ds 1).size ≤ 1099511627776, (dS ds 2).size ≤ 549755813888], macT (dI ds 0) (dS ds 1) (dS ds 2))
theorem anyMac {f : FuncId} {o32 o64 oNo : List D → List Prop × TV} (h32 : CtOk Try.prog (shCt f [.con .i64 32, .str, .str] o32)) (h64 : CtOk Try.prog (shCt f [.con .i64 64, .str, .str] o64)) (hNo : CtOk Try.prog (shCt f [.num .i64, .str, .str] oNo))
    (e32 : o32 = fun ds => ([(dS ds 1).size ≤ 1099511627776, (dS ds 2).size ≤ 549755813888], .tup [.one (.strn (mac32 (dS ds 1) (dS ds 2)) 32 (mac32_size _ _)), .one (.lit .i64 0)]))
    (e64 : o64 = fun ds => ([(dS ds 1).size ≤ 1099511627776, (dS ds 2).size ≤ 549755813888], .tup [.one (.strn (mac64 (dS ds 1) (dS ds 2)) 64 (mac64_size _ _)), .one (.lit .i64 0)]))
    (eNo : oNo = fun ds => ([dI ds 0 ≠ 32 ∧ dI ds 0 ≠ 64], .tup [.one (.str .empty), .one (.lit .i64 1)])) : CtOk Try.prog (shCt f [.num .i64, .str, .str] macOut) := by
  subst e32; subst e64; subst eNo
  refine caseCt fun ds h hn => ?_
  match ds, h, hn with
  | [.I n, .S k, .S d], _, hn =>
    by_cases c1 : n = 32
    · subst c1
      exact ⟨_, _, [.one (.lit .i64 32), .one (.str k), .one (.str d)], [.I 32, .S k, .S d], h32, rfl, fun _ vs r => (by cases vs with | nil => exact r.elim | cons v vs => exact r), hn, rfl⟩
    · by_cases c2 : n = 64
      · subst c2
        exact ⟨_, _, [.one (.lit .i64 64), .one (.str k), .one (.str d)], [.I 64, .S k, .S d], h64, rfl, fun _ vs r => (by cases vs with | nil => exact r.elim | cons v vs => exact r), hn, rfl⟩
      · obtain ⟨e1, e2⟩ := macS_no ⟨c1, c2⟩ k d
        refine ⟨_, _, [.one (.int .i64 n), .one (.str k), .one (.str d)], [.I n, .S k, .S d], hNo, rfl, fun _ _ r => r, ?_, ?_⟩
        · intro p hp
          rw [List.mem_singleton] at hp
          subst hp
          exact ⟨c1, c2⟩
        · show TV.norm (macT n k d) = _
          unfold macT
          rw [e1, e2]
          rfl
def ctMacAny : Ct := shCt 34 [.num .i64, .str, .str] macOut
theorem ctMacAny_ok : CtOk Try.prog ctMacAny := anyMac ctMac32_ok ctMac64_ok ctMacNo_ok rfl rfl rfl
def ctMacAnyR : Ct := shCt 35 [.num .i64, .str, .str] macOut
theorem ctMacAnyR_ok : CtOk Try.prog ctMacAnyR := anyMac ctMacR32_ok ctMacR64_ok ctMacNoR_ok rfl rfl rfl
def ctMacP : Ct := orCt ctMac32 (orCt ctMac64 ctMacAny)
theorem ctMacP_ok : CtOk Try.prog ctMacP := orCt_ok2 34 ctMac32_ok (orCt_ok2 34 ctMac64_ok ctMacAny_ok rfl rfl) rfl (orCt_f rfl)
def ctMacQ : Ct := orCt ctMacR32 (orCt ctMacR64 ctMacAnyR)
theorem ctMacQ_ok : CtOk Try.prog ctMacQ := orCt_ok2 35 ctMacR32_ok (orCt_ok2 35 ctMacR64_ok ctMacAnyR_ok rfl rfl) rfl (orCt_f rfl)
/-! ### Tags, what is extracted -/
def needsM2 (k d : ByteArray) : List Prop := [k.size ≤ 1099511627776, d.size ≤ 549755813888]
def ctTag : Ct := shCt 71 [.str, .str] fun ds => (needsM2 (dS ds 0) (dS ds 1), .sv (.one (.str (mac32 (dS ds 0) (dS ds 1)))))
theorem ctTag_ok : CtOk Try.prog ctTag :=
  oneCt_ok (cts := [ctMac32]) (fz := []) (fuel := 10) mix (allOk ⟨ctMac32_ok, trivial⟩) Try.func71 (by kernel_rfl) (by kernel_rfl) (fun _ => rfl) fun ds h hn => match ds, h, hn with
    | [.S k, .S d], h, hn => ⟨_, viewArgs_is h, needsM2 k d, by kernel_rfl, hn⟩
def ctExtract : Ct := shCt 38 [.str, .str] fun ds => (needsM2 (dS ds 0) (dS ds 1), .sv (.one (.strn (mac32 (dS ds 0) (dS ds 1)) 32 (mac32_size _ _))))
theorem ctExtract_ok : CtOk Try.prog ctExtract :=
  oneCt_ok (cts := [ctTag]) (fz := []) (fuel := 10) mix (allOk ⟨ctTag_ok, trivial⟩) Try.func38 (by kernel_rfl) (by kernel_rfl) (fun _ => rfl) fun ds h hn => match ds, h, hn with
    | [.S k, .S d], h, hn => ⟨_, viewArgs_is h, needsM2 k d, by kernel_rfl, hn⟩
def z32 : ByteArray := strOfNums (List.replicate 32 0)
theorem z32_size : z32.size = 32 := by rw [z32, strOfNums_size]; rfl
theorem z32_byte (i : Nat) (h : i < 32) : sbyte z32 i = 0 := by
  have e : (List.replicate 32 (0 : Int)).getD i 0 = 0 := (by decide : ∀ j : Fin 32, (List.replicate 32 (0 : Int)).getD j 0 = 0) ⟨i, h⟩
  rw [z32, sbyte_strOfNums (by simpa using h) (by rw [e]; decide), e]
theorem key32_short {k : ByteArray} (h : k.size ≤ 64) : key32 k = k := by
  unfold key32
  rw [decide_eq_false (by omega)]
  rfl
/-- Bytes 0 behind a key's last one make no difference. -/
theorem padS_more {n : Nat} {k l : ByteArray} (hk : k.size ≤ l.size) (h1 : ∀ i : Nat, i < k.size → sbyte l i = sbyte k i) (h0 : ∀ i : Nat, k.size ≤ i → i < l.size → sbyte l i = 0) (c : Int) : padS n l c = padS n k c := by
  unfold padS padL padB
  congr 1
  refine List.map_congr_left fun j _ => ?_
  by_cases c1 : j < k.size
  · rw [decide_eq_true c1, decide_eq_true (by omega), h1 j c1]
  · rw [decide_eq_false c1]
    by_cases c2 : j < l.size
    · rw [decide_eq_true c2, h0 j (by omega) c2]; rfl
    · rw [decide_eq_false c2]; rfl
theorem mac32_nil (d : ByteArray) : mac32 z32 d = mac32 .empty d := by
  have e : ∀ c, padS 64 z32 c = padS 64 .empty c := fun c => padS_more (k := .empty) (l := z32) (Nat.zero_le _) (fun i hi => absurd hi (Nat.not_lt_zero i)) (fun i _ hi => z32_byte i (by rw [z32_size] at hi; exact hi)) c
  unfold mac32
  rw [key32_short (by rw [z32_size]; decide), key32_short (by decide), e, e]
def saltR (k : ByteArray) : ByteArray := bif k.toList == (⟨#[]⟩ : ByteArray).toList then z32 else k
def inR (k d : ByteArray) : ByteArray := bif k.toList == (⟨#[]⟩ : ByteArray).toList then d else d
theorem saltR_mac (k d : ByteArray) : mac32 (saltR k) d = mac32 k d := by
  unfold saltR
  rw [toList_beq]
  by_cases c : k = ⟨#[]⟩
  · rw [decide_eq_true c, cond_true, mac32_nil, c]; rfl
  · rw [decide_eq_false c, cond_false]
theorem saltR_size (k : ByteArray) : (saltR k).size ≤ k.size + 32 := by
  unfold saltR
  cases (k.toList == (⟨#[]⟩ : ByteArray).toList)
  · exact Nat.le_add_right _ _
  · rw [cond_true, z32_size]; omega
def ctExtractR : Ct := shCt 39 [.str, .str] fun ds => ([(dS ds 0).size ≤ 549755813888, (dS ds 1).size ≤ 549755813888], .sv (.one (.strn (mac32 (dS ds 0) (dS ds 1)) 32 (mac32_size _ _))))
theorem ctExtractR_ok : CtOk Try.prog ctExtractR :=
  runCtL_ok (cts := [ctMacR32]) (fz := []) (fuel := 10) mix (allOk ⟨ctMacR32_ok, trivial⟩) Try.func39 (c := bodyOf Try.f39) (by kernel_rfl) (by kernel_rfl) (fun _ => rfl) fun ds h hn => match ds, h, hn with
    | [.S k, .S d], h, hn => by
      have hk : k.size ≤ 549755813888 := hn _ (List.mem_cons_self ..)
      have hd : d.size ≤ 549755813888 := hn _ (by simp [dS])
      refine ⟨[], (fun _ _ _ hg => by cases hg), _, viewArgs_is h, ?_⟩
      have hr : runC Try.prog [ctMacR32] [] [] 10 Try.f39 (bodyOf Try.f39) (viewArgs [.str, .str] [.S k, .S d] h) = needT (needsM2 (saltR k) (inR k d)) (.leaf (.sv (.one (.str (mac32 (saltR k) (inR k d)))))) := by kernel_rfl
      have e : inR k d = d := Bool.cond_self ..
      rw [hr, saltR_mac, e]
      refine needT_wp (fun p hp => ?_) rfl
      have hs := saltR_size k
      simp only [needsM2, List.mem_cons, List.not_mem_nil, or_false] at hp
      rcases hp with rfl | rfl <;> omega
end Go.Proofs.Ytihmhnfjdkkbgaa
