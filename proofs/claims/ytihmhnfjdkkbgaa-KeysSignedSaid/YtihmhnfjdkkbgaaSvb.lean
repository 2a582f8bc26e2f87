/- The statements of layer 1, part b: hashes. -/
import Derived.Test.YtihmhnfjdkkbgaaSva
noncomputable section
namespace Go.Proofs.Ytihmhnfjdkkbgaa
open Go Go.RowKit RX Sh
set_option linter.unusedSimpArgs false
set_option maxRecDepth 10000000
theorem str_nums (s : ByteArray) : strOfNums (strNums s) = s := by
  refine str_ext ?_ fun i hi => ?_
  · rw [strOfNums_size, strNums_length]
  · rw [strOfNums_size, strNums_length] at hi
    have hb := sbyte_le s i
    have e : (strNums s).getD i 0 = sbyte s i := by
      unfold strNums
      rw [sbyte_nat]
      have hl : i < s.data.toList.length := by simpa using hi
      simp only [List.getD_eq_getElem?_getD, List.getElem?_map, List.getElem?_eq_getElem hl, Option.map_some, Option.getD_some]
    rw [sbyte_strOfNums (by rw [strNums_length]; exact hi) (by rw [e]; exact hb), e]
theorem strNums_append (s t : ByteArray) : strNums (s ++ t) = strNums s ++ strNums t := by
  unfold strNums
  rw [show (s ++ t).data.toList = s.data.toList ++ t.data.toList by simp, List.map_append]
def ctNew : Ct := inlCt Try.prog [] 10 32 Try.f32
theorem ctNew_ok : CtOk Try.prog ctNew := inlCt_ok mix (by simp) Try.func32 (by kernel_rfl) (by kernel_rfl)
def ctWrite : Ct := inlCt Try.prog [] 10 30 Try.f30
theorem ctWrite_ok : CtOk Try.prog ctWrite := inlCt_ok mix (by simp) Try.func30 (by kernel_rfl) (by kernel_rfl)
def ctSumH : Ct := inlCt Try.prog [Sh32.ctSum, Sh64.ctSum] 10 31 Try.f31
theorem ctSumH_ok : CtOk Try.prog ctSumH := inlCt_ok (cts := [Sh32.ctSum, Sh64.ctSum]) mix (allOk ⟨Sh32.ctSum_ok, Sh64.ctSum_ok, trivial⟩) Try.func31 (by kernel_rfl) (by kernel_rfl)
def ctsH : List Ct := [Sh32.ctSum, Sh64.ctSum, ctAwakeS, ctNew, ctWrite, ctSumH]
theorem ctsH_ok : ∀ c ∈ [Sh32.ctSum, Sh64.ctSum, ctAwakeS, ctNew, ctWrite, ctSumH], CtOk Try.prog c := allOk ⟨Sh32.ctSum_ok, Sh64.ctSum_ok, ctAwakeS_ok, ctNew_ok, ctWrite_ok, ctSumH_ok, trivial⟩
theorem shaNil_calls (s : ByteArray) (w : World) : Calls Try.prog 5 ⟨[.string s]⟩ w (RetT w noaway (bool1 true)) := by
  have hr : runC Try.prog ctsH [] [] 10 Try.f5 (bodyOf Try.f5) [.one (.str s)] = .br (ByteArray.empty.toList == ByteArray.empty.toList) yesS noS := by kernel_rfl
  refine calls_of_runT (cts := ctsH) (lps := []) (fz := []) (fuel := 10) mix ctsH_ok Try.func5 (c := bodyOf Try.f5) (by kernel_rfl) (fun _ _ g hg => by cases hg) (args := [.one (.str s)]) rfl ?_ (fun k hk => hk.elim) ⟨rfl, trivial⟩
  rw [hr]
  exact TT.br_t (beq_self_eq_true _) rfl
def needsZ (L : List Int) : List Prop := [L.length = L.length, (strOfNums L).size ≤ 1099511627776]
theorem shaSizes_calls (s : ByteArray) (w : World) : Calls Try.prog 8 ⟨[.string s]⟩ w (RetT w noaway (bool1 true)) := by
  have hr : runC Try.prog ctsH [] [] 10 Try.f8 (bodyOf Try.f8) [.one (.str s)] =
      .br (decide ((s.size : Int) > 5000)) yesS (needT ([(strNums s).length ≤ 8796093022208, (strNums s).length ≤ 8796093022208, s.size ≤ 1099511627776, s.size ≤ 1099511627776] ++ needsZ (strNums s))
        (.br ((Sh32.dgS (strOfNums (strNums s))).toList == (Sh32.dgS s).toList) (needT (needsZ (strNums s)) (.br ((Sh64.dgS (strOfNums (strNums s))).toList == (Sh64.dgS s).toList) yesS noS)) noS)) := by kernel_rfl
  refine calls_of_runT (cts := ctsH) (lps := []) (fz := []) (fuel := 10) mix ctsH_ok Try.func8 (c := bodyOf Try.f8) (by kernel_rfl) (fun _ _ g hg => by cases hg) (args := [.one (.str s)]) rfl ?_ (fun k hk => hk.elim) ⟨rfl, trivial⟩
  rw [hr]
  refine ⟨fun _ => rfl, fun hb => ?_⟩
  have hd : s.size ≤ 5000 := by
    have := of_decide_eq_false hb
    omega
  have hz : ∀ p ∈ needsZ (strNums s), p := by
    intro p hp
    simp only [needsZ, List.mem_cons, List.not_mem_nil, or_false] at hp
    rcases hp with rfl | rfl
    · trivial
    · rw [str_nums]; omega
  refine needT_wp (fun p hp => ?_) (TT.br_t (by rw [str_nums]; exact beq_self_eq_true _) (needT_wp hz (TT.br_t (by rw [str_nums]; exact beq_self_eq_true _) rfl)))
  rcases List.mem_append.1 hp with hp | hp
  · simp only [List.mem_cons, List.not_mem_nil, or_false, strNums_length] at hp
    rcases hp with rfl | rfl | rfl | rfl <;> omega
  · exact hz p hp
/-! ### Bytes that are cut -/
def plC (n a : Int) : Int := (IntKind.i64.wrap (a.tmod n + n)).tmod n
def mnC (m n : Int) : Int := if n < m then n else m
def mxC (m n : Int) : Int := if n > m then n else m
section
variable (s : ByteArray) (a b : Int)
def mnS : Int := mnC (plC s.size a) (plC s.size b)
def mxS : Int := mxC (plC s.size a) (plC s.size b)
def cut0 : List Int := strNums (s.extract (Int.toNat 0) (mnS s a b).toNat)
def cut1 : List Int := cut0 s a b ++ strNums (s.extract (mnS s a b).toNat (mxS s a b).toNat)
def cut2 : List Int := cut1 s a b ++ strNums (s.extract (mxS s a b).toNat (s.size : Int).toNat)
def needsCut : List Prop := [(s.size : Int) ≠ 0, (s.size : Int) ≠ 0, (s.size : Int) ≠ 0, (s.size : Int) ≠ 0, (0 : Int) ≤ 0, 0 ≤ mnS s a b, mnS s a b ≤ s.size, 0 ≤ mnS s a b, mnS s a b ≤ mxS s a b, mxS s a b ≤ s.size, 0 ≤ mxS s a b, mxS s a b ≤ s.size, (s.size : Int) ≤ s.size,
  (cut0 s a b).length ≤ 8796093022208, (cut0 s a b).length ≤ 8796093022208, (cut1 s a b).length ≤ 8796093022208, (cut0 s a b).length = (cut0 s a b).length, (cut1 s a b).length ≤ 8796093022208, (cut0 s a b).length = (cut0 s a b).length,
  (cut2 s a b).length ≤ 8796093022208, (cut1 s a b).length = (cut1 s a b).length, (cut2 s a b).length ≤ 8796093022208, (cut1 s a b).length = (cut1 s a b).length]
def needsCutZ : List Prop := [(cut2 s a b).length = (cut2 s a b).length, (strOfNums (cut2 s a b)).size ≤ 1099511627776, s.size ≤ 1099511627776]
end
theorem plC_in {n a : Int} (h0 : 0 < n) (h1 : n ≤ 10000) : 0 ≤ plC n a ∧ plC n a < n := by
  unfold plC
  have e : -n < a.tmod n ∧ a.tmod n < n := ⟨Int.lt_tmod_of_pos a h0, Int.tmod_lt_of_pos a h0⟩
  rw [IntWalk.i64_in _ (by omega)]
  have h2 : 0 ≤ a.tmod n + n := by omega
  exact ⟨Int.tmod_nonneg _ h2, Int.tmod_lt_of_pos _ h0⟩
theorem shaCut_calls (s : ByteArray) (a b : Int) (w : World) : Calls Try.prog 7 ⟨[.string s, .int .i64 a, .int .i64 b]⟩ w (RetT w noaway (bool1 true)) := by
  have hr : runC Try.prog ctsH [] [] 10 Try.f7 (bodyOf Try.f7) [.one (.str s), .one (.int .i64 a), .one (.int .i64 b)] =
      .br (decide ((s.size : Int) > 10000)) yesS (.br ((s.size : Int) == 0) yesS (needT (needsCut s a b ++ needsCutZ s a b)
        (.br ((Sh32.dgS (strOfNums (cut2 s a b))).toList == (Sh32.dgS s).toList) (needT (needsCutZ s a b) (.br ((Sh64.dgS (strOfNums (cut2 s a b))).toList == (Sh64.dgS s).toList) yesS noS)) noS))) := by kernel_rfl
  refine calls_of_runT (cts := ctsH) (lps := []) (fz := []) (fuel := 10) mix ctsH_ok Try.func7 (c := bodyOf Try.f7) (by kernel_rfl) (fun _ _ g hg => by cases hg) (args := [.one (.str s), .one (.int .i64 a), .one (.int .i64 b)]) rfl ?_ (fun k hk => hk.elim) ⟨rfl, rfl, rfl, trivial⟩
  rw [hr]
  refine ⟨fun _ => rfl, fun hb => ⟨fun _ => rfl, fun hb2 => ?_⟩⟩
  have hd : (s.size : Int) ≤ 10000 := by
    have := of_decide_eq_false hb
    omega
  have h0 : 0 < (s.size : Int) := by
    have : (s.size : Int) ≠ 0 := by simpa using hb2
    omega
  have hA := plC_in (a := a) h0 hd
  have hB := plC_in (a := b) h0 hd
  have h1 : 0 ≤ mnS s a b ∧ mnS s a b ≤ mxS s a b ∧ mxS s a b ≤ s.size := by
    unfold mnS mxS mnC mxC
    split <;> split <;> omega
  have hm : ((mnS s a b).toNat : Int) = mnS s a b := by omega
  have hx : ((mxS s a b).toNat : Int) = mxS s a b := by omega
  have hc : strOfNums (cut2 s a b) = s := by
    have e : cut2 s a b = strNums (s.extract 0 (mnS s a b).toNat ++ s.extract (mnS s a b).toNat (mxS s a b).toNat ++ s.extract (mxS s a b).toNat s.size) := by
      rw [strNums_append, strNums_append]; rfl
    rw [e, str_nums]
    refine str_ext ?_ fun i hi => ?_
    · simp only [ByteArray.size_append, ByteArray.size_extract]; omega
    · have e1 : (s.extract 0 (mnS s a b).toNat).size = (mnS s a b).toNat := by rw [ByteArray.size_extract]; omega
      have e2 : (s.extract (mnS s a b).toNat (mxS s a b).toNat).size = (mxS s a b).toNat - (mnS s a b).toNat := by rw [ByteArray.size_extract]; omega
      have e3 : (s.extract (mxS s a b).toNat s.size).size = s.size - (mxS s a b).toNat := by rw [ByteArray.size_extract]; omega
      simp only [ByteArray.size_append, e1, e2, e3] at hi
      by_cases c1 : i < (mnS s a b).toNat
      · rw [sbyte_append_left (by rw [ByteArray.size_append]; omega), sbyte_append_left (by omega), sbyte_extract (by omega)]
        exact congrArg (fun j : Nat => sbyte s (j : Int)) (by omega)
      · by_cases c2 : i < (mxS s a b).toNat
        · rw [sbyte_append_left (by rw [ByteArray.size_append]; omega), sbyte_append_right (by omega), e1, sbyte_extract (by omega)]
          exact congrArg (fun j : Nat => sbyte s (j : Int)) (by omega)
        · rw [sbyte_append_right (by rw [ByteArray.size_append]; omega), ByteArray.size_append, e1, e2, sbyte_extract (by omega)]
          exact congrArg (fun j : Nat => sbyte s (j : Int)) (by omega)
  have hl : (cut2 s a b).length = s.size := by
    have h := congrArg ByteArray.size hc
    rw [strOfNums_size] at h
    exact h
  have hl1 : (cut1 s a b).length ≤ s.size := by rw [← hl, cut2, List.length_append]; omega
  have hl0 : (cut0 s a b).length ≤ s.size := by
    have : (cut0 s a b).length ≤ (cut1 s a b).length := by rw [cut1, List.length_append]; omega
    omega
  have hz : ∀ p ∈ needsCutZ s a b, p := by
    intro p hp
    simp only [needsCutZ, List.mem_cons, List.not_mem_nil, or_false] at hp
    rcases hp with rfl | rfl | rfl
    · trivial
    · rw [hc]; omega
    · omega
  refine needT_wp (fun p hp => ?_) (TT.br_t (by rw [hc]; exact beq_self_eq_true _) (needT_wp hz (TT.br_t (by rw [hc]; exact beq_self_eq_true _) rfl)))
  rcases List.mem_append.1 hp with hp | hp
  · simp only [needsCut, List.mem_cons, List.not_mem_nil, or_false] at hp
    rcases hp with rfl | rfl | rfl | rfl | rfl | rfl | rfl | rfl | rfl | rfl | rfl | rfl | rfl | rfl | rfl | rfl | rfl | rfl | rfl | rfl | rfl | rfl | rfl
    all_goals first | omega | trivial
  · exact hz p hp
end Go.Proofs.Ytihmhnfjdkkbgaa
