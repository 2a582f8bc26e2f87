/- The walk of the statements of layer 8: what a number is, sums, products, inverses, roots. -/
import Derived.Test.YtkkekjkfafnahaaFlb
noncomputable section
namespace Go.Proofs.Ytkkekjkfafnahaa.Fd
open Go Go.RowKit RX
set_option linter.unusedSimpArgs false
def fs (s : ByteArray) : List Int := toLen 5 (ofF s)
theorem fs_ok (s : ByteArray) : Rep (fs s) (valS s 32) := (ofF_ok s).toLen
theorem fs_len (s : ByteArray) : toLen 5 (fs s) = fs s := toLen_toLen 5 _
def rs (s : ByteArray) : List Int := toLen 16 (ofR s)
theorem rs_ok (s : ByteArray) : Rep16 (rs s) (valS s 32) := (ofR_ok s).toLen
theorem sel_ok (s : ByteArray) : ∃ x, Rep (selF s) x ∧ Rep16 (selR s) x := by
  unfold selF selR
  cases has 32 s
  · exact ⟨0, zeroF_can, zeroR_ok⟩
  · exact ⟨_, ofF_ok s, ofR_ok s⟩
theorem wfI {n : Int} (h : (Lit.int .i64 n).wf = true) : -9223372036854775808 ≤ n ∧ n ≤ 9223372036854775807 := by
  simp [Lit.wf] at h
  have e1 : IntKind.i64.min = -9223372036854775808 := rfl
  have e2 : IntKind.i64.max = 9223372036854775807 := rfl
  omega
theorem ne0 {b : Bool} (h : (errB b != 0) = false) : b = true := by cases b <;> first | rfl | (exact absurd h (by decide))
theorem sz {n : Nat} {s : ByteArray} (h : has n s = true) : s.size = n := of_decide_eq_true h

set_option maxRecDepth 1000000 in
theorem takes_calls (s : ByteArray) (n : Int) (hn : (Lit.int .i64 n).wf = true) (w : World) : Calls Try.prog 4 ⟨[.string s, .int .i64 n]⟩ w (RetT w noaway (bool1 true)) := by
  have hr : runC Try.prog [ctOfG, ctOfGR, ctBytesF, ctBytesR, ctSmallF, ctSmallR, ctAwake] [] [] 10 Try.f4 (bodyOf Try.f4) [.one (.str s), .one (.int .i64 n)] =
      .br (errB (has 32 s) == errB (has 32 s)) (.br ((BF (selF s)).toList == (BR (selR s)).toList) (.br ((BF (smallF n)).toList == (BR (smallR n)).toList) yes no) no) no := by kernel_rfl
  refine calls_of_runT (cts := [ctOfG, ctOfGR, ctBytesF, ctBytesR, ctSmallF, ctSmallR, ctAwake]) (lps := []) (fz := []) (fuel := 10) mix (allOk ⟨ctOfG_ok, ctOfGR_ok, ctBytesF_ok, ctBytesR_ok, ctSmallF_ok, ctSmallR_ok, ctAwake_ok, trivial⟩) Try.func4 (c := bodyOf Try.f4) (by kernel_rfl) (fun _ _ g hg => by cases hg) (args := [.one (.str s), .one (.int .i64 n)]) rfl ?_ (fun k hk => hk.elim) ⟨rfl, rfl, trivial⟩
  rw [hr]
  obtain ⟨x, h1, h2⟩ := sel_ok s
  exact TT.br_t (beq_self_eq_true _) (TT.br_t (BFR h1 h2 rfl) (TT.br_t (BFR (smallF_ok (wfI hn)) (smallR_ok (wfI hn)) rfl) yes_wp))
set_option maxRecDepth 1000000 in
theorem of_calls (s : ByteArray) (w : World) : Calls Try.prog 12 ⟨[.string s]⟩ w (RetT w noaway (bool1 true)) := by
  have hr : runC Try.prog [ctOfG, ctOfGR, ctBytesF, ctBytesR, ctSmallF, ctSmallR, ctAwake] [] [] 10 Try.f12 (bodyOf Try.f12) [.one (.str s)] =
      .br (errB (has 32 s) == errB (has 32 s)) (.br ((BF (selF s)).toList == (BR (selR s)).toList) yes no) no := by kernel_rfl
  refine calls_of_runT (cts := [ctOfG, ctOfGR, ctBytesF, ctBytesR, ctSmallF, ctSmallR, ctAwake]) (lps := []) (fz := []) (fuel := 10) mix (allOk ⟨ctOfG_ok, ctOfGR_ok, ctBytesF_ok, ctBytesR_ok, ctSmallF_ok, ctSmallR_ok, ctAwake_ok, trivial⟩) Try.func12 (c := bodyOf Try.f12) (by kernel_rfl) (fun _ _ g hg => by cases hg) (args := [.one (.str s)]) rfl ?_ (fun k hk => hk.elim) ⟨rfl, trivial⟩
  rw [hr]
  obtain ⟨x, h1, h2⟩ := sel_ok s
  exact TT.br_t (beq_self_eq_true _) (TT.br_t (BFR h1 h2 rfl) yes_wp)
set_option maxRecDepth 1000000 in
theorem small_calls (n : Int) (hn : (Lit.int .i64 n).wf = true) (w : World) : Calls Try.prog 3 ⟨[.int .i64 n]⟩ w (RetT w noaway (bool1 true)) := by
  have hr : runC Try.prog [ctOfG, ctOfGR, ctBytesF, ctBytesR, ctSmallF, ctSmallR, ctAwake] [] [] 10 Try.f3 (bodyOf Try.f3) [.one (.int .i64 n)] =
      .br ((BF (smallF n)).toList == (BR (smallR n)).toList) yes no := by kernel_rfl
  refine calls_of_runT (cts := [ctOfG, ctOfGR, ctBytesF, ctBytesR, ctSmallF, ctSmallR, ctAwake]) (lps := []) (fz := []) (fuel := 10) mix (allOk ⟨ctOfG_ok, ctOfGR_ok, ctBytesF_ok, ctBytesR_ok, ctSmallF_ok, ctSmallR_ok, ctAwake_ok, trivial⟩) Try.func3 (c := bodyOf Try.f3) (by kernel_rfl) (fun _ _ g hg => by cases hg) (args := [.one (.int .i64 n)]) rfl ?_ (fun k hk => hk.elim) ⟨rfl, trivial⟩
  rw [hr]
  exact TT.br_t (BFR (smallF_ok (wfI hn)) (smallR_ok (wfI hn)) rfl) yes_wp
theorem lenOk1 {a : ByteArray} (hs : ¬ (a.size = 32)) : TT.wp (.br ((a.size : Int) != 32) yes no) (fun x => x = bool1 true) := by
  refine TT.br_e (fun _ => yes_wp) fun la => (hs ?_).elim
  simp at la
  omega
theorem fieldErr1 {a : ByteArray} (hs : ¬ (a.size = 32)) : TT.wp (.br (errB (has 32 a) != 0) (.br ((a.size : Int) != 32) yes no) .stuck) (fun x => x = bool1 true) :=
  TT.br_e (fun _ => lenOk1 hs) fun ea => (hs (sz (ne0 ea))).elim
theorem lenOk2 {a b : ByteArray} (hs : ¬ (a.size = 32 ∧ b.size = 32)) : TT.wp (.br ((a.size : Int) != 32) yes (.br ((b.size : Int) != 32) yes no)) (fun x => x = bool1 true) := by
  refine TT.br_e (fun _ => yes_wp) fun la => TT.br_e (fun _ => yes_wp) fun lb => (hs ?_).elim
  simp at la
  simp at lb
  omega
theorem fieldErr2 {a b : ByteArray} (hs : ¬ (a.size = 32 ∧ b.size = 32)) : TT.wp (.br (errB (has 32 a) != 0) (.br ((a.size : Int) != 32) yes (.br ((b.size : Int) != 32) yes no)) (.br (errB (has 32 b) != 0) (.br ((a.size : Int) != 32) yes (.br ((b.size : Int) != 32) yes no)) .stuck)) (fun x => x = bool1 true) :=
  TT.br_e (fun _ => lenOk2 hs) fun ea => TT.br_e (fun _ => lenOk2 hs) fun eb => (hs ⟨sz (ne0 ea), sz (ne0 eb)⟩).elim
theorem lenOk3 {a b c : ByteArray} (hs : ¬ (a.size = 32 ∧ b.size = 32 ∧ c.size = 32)) : TT.wp (.br ((a.size : Int) != 32) yes (.br ((b.size : Int) != 32) yes (.br ((c.size : Int) != 32) yes no))) (fun x => x = bool1 true) := by
  refine TT.br_e (fun _ => yes_wp) fun la => TT.br_e (fun _ => yes_wp) fun lb => TT.br_e (fun _ => yes_wp) fun lc => (hs ?_).elim
  simp at la
  simp at lb
  simp at lc
  omega
theorem fieldErr3 {a b c : ByteArray} (hs : ¬ (a.size = 32 ∧ b.size = 32 ∧ c.size = 32)) : TT.wp (.br (errB (has 32 a) != 0) (.br ((a.size : Int) != 32) yes (.br ((b.size : Int) != 32) yes (.br ((c.size : Int) != 32) yes no))) (.br (errB (has 32 b) != 0) (.br ((a.size : Int) != 32) yes (.br ((b.size : Int) != 32) yes (.br ((c.size : Int) != 32) yes no))) (.br (errB (has 32 c) != 0) (.br ((a.size : Int) != 32) yes (.br ((b.size : Int) != 32) yes (.br ((c.size : Int) != 32) yes no))) .stuck))) (fun x => x = bool1 true) :=
  TT.br_e (fun _ => lenOk3 hs) fun ea => TT.br_e (fun _ => lenOk3 hs) fun eb => TT.br_e (fun _ => lenOk3 hs) fun ec => (hs ⟨sz (ne0 ea), sz (ne0 eb), sz (ne0 ec)⟩).elim
set_option maxRecDepth 1000000 in
theorem adds_calls (a b : ByteArray) (w : World) : Calls Try.prog 5 ⟨[.string a, .string b]⟩ w (RetT w noaway (bool1 true)) := by
  by_cases hs : a.size = 32 ∧ b.size = 32
  · obtain ⟨ha, hb⟩ := hs
    have hr : runC Try.prog [ctOf, ctOfRef, ctBytesF, ctBytesR, ctAwake, ctAddF, ctSubF, ctAddR, ctSubR] [] [] 10 Try.f5 (bodyOf Try.f5) [.one (.strn a 32 ha), .one (.strn b 32 hb)] =
        .br ((BF (addF (fs a) (fs b))).toList == (BR (addR (rs a) (rs b))).toList) (.br ((BF (subF (fs a) (fs b))).toList == (BR (subR (rs a) (rs b))).toList) yes no) no := by kernel_rfl
    refine calls_of_runT (cts := [ctOf, ctOfRef, ctBytesF, ctBytesR, ctAwake, ctAddF, ctSubF, ctAddR, ctSubR]) (lps := []) (fz := []) (fuel := 10) mix (allOk ⟨ctOf_ok, ctOfRef_ok, ctBytesF_ok, ctBytesR_ok, ctAwake_ok, ctAddF_ok, ctSubF_ok, ctAddR_ok, ctSubR_ok, trivial⟩) Try.func5 (c := bodyOf Try.f5) (by kernel_rfl) (fun _ _ g hg => by cases hg) (args := [.one (.strn a 32 ha), .one (.strn b 32 hb)]) rfl ?_ (fun k hk => hk.elim) ⟨rfl, rfl, trivial⟩
    rw [hr]
    exact TT.br_t (BFR ((fs_ok a).add (fs_ok b)) ((rs_ok a).add (rs_ok b)) rfl) (TT.br_t (BFR ((fs_ok a).sub (fs_ok b)) ((rs_ok a).sub (rs_ok b)) rfl) yes_wp)
  · have hr : runC Try.prog [ctOfG, ctOfGR, ctAwake] [] [] 10 Try.f5 (bodyOf Try.f5) [.one (.str a), .one (.str b)] =
        (.br (errB (has 32 a) != 0) (.br ((a.size : Int) != 32) yes (.br ((b.size : Int) != 32) yes no)) (.br (errB (has 32 b) != 0) (.br ((a.size : Int) != 32) yes (.br ((b.size : Int) != 32) yes no)) .stuck)) := by kernel_rfl
    refine calls_of_runT (cts := [ctOfG, ctOfGR, ctAwake]) (lps := []) (fz := []) (fuel := 10) mix (allOk ⟨ctOfG_ok, ctOfGR_ok, ctAwake_ok, trivial⟩) Try.func5 (c := bodyOf Try.f5) (by kernel_rfl) (fun _ _ g hg => by cases hg) (args := [.one (.str a), .one (.str b)]) rfl ?_ (fun k hk => hk.elim) ⟨rfl, rfl, trivial⟩
    rw [hr]
    exact fieldErr2 hs

set_option maxRecDepth 1000000 in
theorem muls_calls (a b : ByteArray) (w : World) : Calls Try.prog 6 ⟨[.string a, .string b]⟩ w (RetT w noaway (bool1 true)) := by
  by_cases hs : a.size = 32 ∧ b.size = 32
  · obtain ⟨ha, hb⟩ := hs
    have hr : runC Try.prog [ctOf, ctOfRef, ctBytesF, ctBytesR, ctAwake, ctMulF, ctMulR] [] [] 10 Try.f6 (bodyOf Try.f6) [.one (.strn a 32 ha), .one (.strn b 32 hb)] =
        .br ((BF (mulF (fs a) (fs b))).toList == (BR (mulR (rs a) (rs b))).toList) yes no := by kernel_rfl
    refine calls_of_runT (cts := [ctOf, ctOfRef, ctBytesF, ctBytesR, ctAwake, ctMulF, ctMulR]) (lps := []) (fz := []) (fuel := 10) mix (allOk ⟨ctOf_ok, ctOfRef_ok, ctBytesF_ok, ctBytesR_ok, ctAwake_ok, ctMulF_ok, ctMulR_ok, trivial⟩) Try.func6 (c := bodyOf Try.f6) (by kernel_rfl) (fun _ _ g hg => by cases hg) (args := [.one (.strn a 32 ha), .one (.strn b 32 hb)]) rfl ?_ (fun k hk => hk.elim) ⟨rfl, rfl, trivial⟩
    rw [hr]
    exact TT.br_t (BFR ((fs_ok a).mul (fs_ok b)) ((rs_ok a).mul (rs_ok b)) rfl) yes_wp
  · have hr : runC Try.prog [ctOfG, ctOfGR, ctAwake] [] [] 10 Try.f6 (bodyOf Try.f6) [.one (.str a), .one (.str b)] =
        (.br (errB (has 32 a) != 0) (.br ((a.size : Int) != 32) yes (.br ((b.size : Int) != 32) yes no)) (.br (errB (has 32 b) != 0) (.br ((a.size : Int) != 32) yes (.br ((b.size : Int) != 32) yes no)) .stuck)) := by kernel_rfl
    refine calls_of_runT (cts := [ctOfG, ctOfGR, ctAwake]) (lps := []) (fz := []) (fuel := 10) mix (allOk ⟨ctOfG_ok, ctOfGR_ok, ctAwake_ok, trivial⟩) Try.func6 (c := bodyOf Try.f6) (by kernel_rfl) (fun _ _ g hg => by cases hg) (args := [.one (.str a), .one (.str b)]) rfl ?_ (fun k hk => hk.elim) ⟨rfl, rfl, trivial⟩
    rw [hr]
    exact fieldErr2 hs

set_option maxRecDepth 1000000 in
theorem inverts_calls (a : ByteArray) (w : World) : Calls Try.prog 7 ⟨[.string a]⟩ w (RetT w noaway (bool1 true)) := by
  by_cases hs : a.size = 32
  · have ha := hs
    have hr : runC Try.prog [ctOf, ctOfRef, ctBytesF, ctBytesR, ctAwake, ctInvF, ctInvR] [] [] 10 Try.f7 (bodyOf Try.f7) [.one (.strn a 32 ha)] =
        .br ((BF (invF (fs a))).toList == (BR (invR (rs a))).toList) yes no := by kernel_rfl
    refine calls_of_runT (cts := [ctOf, ctOfRef, ctBytesF, ctBytesR, ctAwake, ctInvF, ctInvR]) (lps := []) (fz := []) (fuel := 10) mix (allOk ⟨ctOf_ok, ctOfRef_ok, ctBytesF_ok, ctBytesR_ok, ctAwake_ok, ctInvF_ok, ctInvR_ok, trivial⟩) Try.func7 (c := bodyOf Try.f7) (by kernel_rfl) (fun _ _ g hg => by cases hg) (args := [.one (.strn a 32 ha)]) rfl ?_ (fun k hk => hk.elim) ⟨rfl, trivial⟩
    rw [hr]
    exact TT.br_t (BFR (inv_ok (fs_ok a).pw) (invR_ok (rs_ok a)) rfl) yes_wp
  · have hr : runC Try.prog [ctOfG, ctOfGR, ctAwake] [] [] 10 Try.f7 (bodyOf Try.f7) [.one (.str a)] =
        (.br (errB (has 32 a) != 0) (.br ((a.size : Int) != 32) yes no) .stuck) := by kernel_rfl
    refine calls_of_runT (cts := [ctOfG, ctOfGR, ctAwake]) (lps := []) (fz := []) (fuel := 10) mix (allOk ⟨ctOfG_ok, ctOfGR_ok, ctAwake_ok, trivial⟩) Try.func7 (c := bodyOf Try.f7) (by kernel_rfl) (fun _ _ g hg => by cases hg) (args := [.one (.str a)]) rfl ?_ (fun k hk => hk.elim) ⟨rfl, trivial⟩
    rw [hr]
    exact fieldErr1 hs

set_option maxRecDepth 1000000 in
theorem roots_calls (a : ByteArray) (w : World) : Calls Try.prog 8 ⟨[.string a]⟩ w (RetT w noaway (bool1 true)) := by
  by_cases hs : a.size = 32
  · have ha := hs
    have hr : runC Try.prog [ctOf, ctOfRef, ctBytesF, ctBytesR, ctAwake, ctRootF, ctRootR] [] [] 10 Try.f8 (bodyOf Try.f8) [.one (.strn a 32 ha)] =
        .br (hasF (fs a) == hasR (rs a)) (.br ((BF (rootF (fs a))).toList == (BR (rootR (rs a))).toList) yes no) no := by kernel_rfl
    refine calls_of_runT (cts := [ctOf, ctOfRef, ctBytesF, ctBytesR, ctAwake, ctRootF, ctRootR]) (lps := []) (fz := []) (fuel := 10) mix (allOk ⟨ctOf_ok, ctOfRef_ok, ctBytesF_ok, ctBytesR_ok, ctAwake_ok, ctRootF_ok, ctRootR_ok, trivial⟩) Try.func8 (c := bodyOf Try.f8) (by kernel_rfl) (fun _ _ g hg => by cases hg) (args := [.one (.strn a 32 ha)]) rfl ?_ (fun k hk => hk.elim) ⟨rfl, trivial⟩
    rw [hr]
    exact TT.br_t (by rw [hasF_ok (fs_ok a) (fs_len a), hasR_ok (rs_ok a)]; exact beq_self_eq_true _) (TT.br_t (BFR (rootF_ok (fs_ok a) (fs_len a)) (rootR_ok (rs_ok a)) rfl) yes_wp)
  · have hr : runC Try.prog [ctOfG, ctOfGR, ctAwake] [] [] 10 Try.f8 (bodyOf Try.f8) [.one (.str a)] =
        (.br (errB (has 32 a) != 0) (.br ((a.size : Int) != 32) yes no) .stuck) := by kernel_rfl
    refine calls_of_runT (cts := [ctOfG, ctOfGR, ctAwake]) (lps := []) (fz := []) (fuel := 10) mix (allOk ⟨ctOfG_ok, ctOfGR_ok, ctAwake_ok, trivial⟩) Try.func8 (c := bodyOf Try.f8) (by kernel_rfl) (fun _ _ g hg => by cases hg) (args := [.one (.str a)]) rfl ?_ (fun k hk => hk.elim) ⟨rfl, trivial⟩
    rw [hr]
    exact fieldErr1 hs

set_option maxRecDepth 1000000 in
theorem sum_calls (a b : ByteArray) (w : World) : Calls Try.prog 13 ⟨[.string a, .string b]⟩ w (RetT w noaway (bool1 true)) := by
  by_cases hs : a.size = 32 ∧ b.size = 32
  · obtain ⟨ha, hb⟩ := hs
    have hr : runC Try.prog [ctOf, ctOfRef, ctBytesF, ctBytesR, ctAwake, ctAddF, ctAddR] [] [] 10 Try.f13 (bodyOf Try.f13) [.one (.strn a 32 ha), .one (.strn b 32 hb)] =
        .br ((BF (addF (fs a) (fs b))).toList == (BR (addR (rs a) (rs b))).toList) yes no := by kernel_rfl
    refine calls_of_runT (cts := [ctOf, ctOfRef, ctBytesF, ctBytesR, ctAwake, ctAddF, ctAddR]) (lps := []) (fz := []) (fuel := 10) mix (allOk ⟨ctOf_ok, ctOfRef_ok, ctBytesF_ok, ctBytesR_ok, ctAwake_ok, ctAddF_ok, ctAddR_ok, trivial⟩) Try.func13 (c := bodyOf Try.f13) (by kernel_rfl) (fun _ _ g hg => by cases hg) (args := [.one (.strn a 32 ha), .one (.strn b 32 hb)]) rfl ?_ (fun k hk => hk.elim) ⟨rfl, rfl, trivial⟩
    rw [hr]
    exact TT.br_t (BFR ((fs_ok a).add (fs_ok b)) ((rs_ok a).add (rs_ok b)) rfl) yes_wp
  · have hr : runC Try.prog [ctOfG, ctOfGR, ctAwake] [] [] 10 Try.f13 (bodyOf Try.f13) [.one (.str a), .one (.str b)] =
        .br (errB (has 32 a) != 0) yes (.br (errB (has 32 b) != 0) yes .stuck) := by kernel_rfl
    refine calls_of_runT (cts := [ctOfG, ctOfGR, ctAwake]) (lps := []) (fz := []) (fuel := 10) mix (allOk ⟨ctOfG_ok, ctOfGR_ok, ctAwake_ok, trivial⟩) Try.func13 (c := bodyOf Try.f13) (by kernel_rfl) (fun _ _ g hg => by cases hg) (args := [.one (.str a), .one (.str b)]) rfl ?_ (fun k hk => hk.elim) ⟨rfl, rfl, trivial⟩
    rw [hr]
    exact TT.br_e (fun _ => yes_wp) fun ea => TT.br_e (fun _ => yes_wp) fun eb => (hs ⟨sz (ne0 ea), sz (ne0 eb)⟩).elim

set_option maxRecDepth 1000000 in
theorem sub_calls (a b : ByteArray) (w : World) : Calls Try.prog 14 ⟨[.string a, .string b]⟩ w (RetT w noaway (bool1 true)) := by
  by_cases hs : a.size = 32 ∧ b.size = 32
  · obtain ⟨ha, hb⟩ := hs
    have hr : runC Try.prog [ctOf, ctOfRef, ctBytesF, ctBytesR, ctAwake, ctSubF, ctSubR] [] [] 10 Try.f14 (bodyOf Try.f14) [.one (.strn a 32 ha), .one (.strn b 32 hb)] =
        .br ((BF (subF (fs a) (fs b))).toList == (BR (subR (rs a) (rs b))).toList) yes no := by kernel_rfl
    refine calls_of_runT (cts := [ctOf, ctOfRef, ctBytesF, ctBytesR, ctAwake, ctSubF, ctSubR]) (lps := []) (fz := []) (fuel := 10) mix (allOk ⟨ctOf_ok, ctOfRef_ok, ctBytesF_ok, ctBytesR_ok, ctAwake_ok, ctSubF_ok, ctSubR_ok, trivial⟩) Try.func14 (c := bodyOf Try.f14) (by kernel_rfl) (fun _ _ g hg => by cases hg) (args := [.one (.strn a 32 ha), .one (.strn b 32 hb)]) rfl ?_ (fun k hk => hk.elim) ⟨rfl, rfl, trivial⟩
    rw [hr]
    exact TT.br_t (BFR ((fs_ok a).sub (fs_ok b)) ((rs_ok a).sub (rs_ok b)) rfl) yes_wp
  · have hr : runC Try.prog [ctOfG, ctOfGR, ctAwake] [] [] 10 Try.f14 (bodyOf Try.f14) [.one (.str a), .one (.str b)] =
        .br (errB (has 32 a) != 0) yes (.br (errB (has 32 b) != 0) yes .stuck) := by kernel_rfl
    refine calls_of_runT (cts := [ctOfG, ctOfGR, ctAwake]) (lps := []) (fz := []) (fuel := 10) mix (allOk ⟨ctOfG_ok, ctOfGR_ok, ctAwake_ok, trivial⟩) Try.func14 (c := bodyOf Try.f14) (by kernel_rfl) (fun _ _ g hg => by cases hg) (args := [.one (.str a), .one (.str b)]) rfl ?_ (fun k hk => hk.elim) ⟨rfl, rfl, trivial⟩
    rw [hr]
    exact TT.br_e (fun _ => yes_wp) fun ea => TT.br_e (fun _ => yes_wp) fun eb => (hs ⟨sz (ne0 ea), sz (ne0 eb)⟩).elim

end Go.Proofs.Ytkkekjkfafnahaa.Fd
