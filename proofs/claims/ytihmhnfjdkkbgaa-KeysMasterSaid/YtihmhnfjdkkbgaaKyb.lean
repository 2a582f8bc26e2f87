/- The walk of the package keys and of cressetref17: what is signed. -/
import Derived.Test.YtihmhnfjdkkbgaaKya
noncomputable section
namespace Go.Proofs.Ytihmhnfjdkkbgaa
open Go Go.RowKit RX Sh
set_option linter.unusedSimpArgs false
set_option maxRecDepth 10000000
def ctM64 : Ct := inlCt Try.prog [] 10 100 Try.f100
theorem ctM64_ok : CtOk Try.prog ctM64 := inlCt_ok mix (by simp) Try.func100 (by kernel_rfl) (by kernel_rfl)
def ctM : Ct := inlCt Try.prog [ctM64] 10 89 Try.f89
theorem ctM_ok : CtOk Try.prog ctM := inlCt_ok (cts := [ctM64]) mix (allOk ⟨ctM64_ok, trivial⟩) Try.func89 (by kernel_rfl) (by kernel_rfl)
def hpOut (ds : List D) : List Prop × TV := ([(dS ds 1).size ≤ (dS ds 0).size], .sv (.one (.bool (((dS ds 0).extract 0 (dS ds 1).size).toList == (dS ds 1).toList))))
def ctHp1 : Ct := shCt 101 [.str, .str] hpOut
theorem ctHp1_ok : CtOk Try.prog ctHp1 :=
  runCtL_ok (cts := []) (fz := []) (fuel := 40) mix (by simp) Try.func101 (c := bodyOf Try.f101) (by kernel_rfl) (by kernel_rfl) (fun _ => rfl) fun ds h hn => match ds, h, hn with
    | [.S s, .S t], h, hn => by
      have hs : t.size ≤ s.size := hn _ (List.mem_cons_self ..)
      refine ⟨[], (fun _ _ _ hg => by cases hg), _, viewArgs_is h, ?_⟩
      have hr : runC Try.prog [] [] [] 40 Try.f101 (bodyOf Try.f101) (viewArgs [.str, .str] [.S s, .S t] h) = .br (decide ((s.size : Int) ≥ (t.size : Int))) (needT [(0 : Int) ≤ 0, (0 : Int) ≤ t.size, (t.size : Int) ≤ s.size] (.leaf (.sv (.one (.bool ((s.extract (Int.toNat 0) ((t.size : Int)).toNat).toList == t.toList)))))) (.leaf (.sv (.one (.bool false)))) := by kernel_rfl
      rw [hr]
      refine TT.br_t (decide_eq_true (by omega)) (needT_wp (fun p hp => ?_) rfl)
      simp only [List.mem_cons, List.not_mem_nil, or_false] at hp
      rcases hp with rfl | rfl | rfl <;> omega
def ctHp : Ct := shCt 90 [.str, .str] hpOut
theorem ctHp_ok : CtOk Try.prog ctHp :=
  oneCt_ok (cts := [ctHp1]) (fz := []) (fuel := 40) mix (allOk ⟨ctHp1_ok, trivial⟩) Try.func90 (by kernel_rfl) (by kernel_rfl) (fun _ => rfl) fun ds h hn => match ds, h, hn with
    | [.S s, .S t], h, hn => ⟨_, viewArgs_is h, [t.size ≤ s.size], by kernel_rfl, hn⟩
/-! ### 64 blanks -/
def sp (n : Nat) : ByteArray := strOfNums (List.replicate n 32)
theorem sp_size (n : Nat) : (sp n).size = n := by unfold sp; rw [strOfNums_size, List.length_replicate]
def blank : ByteArray := ⟨#[32]⟩
theorem blank_size : blank.size = 1 := rfl
def repN : List Prop := [blank.size ≤ (sp 128).size]
theorem sp_half : (sp 128).extract 0 64 = sp 64 := by decide +kernel
def ctRep : Ct := shCt 80 [.str, .con .i64 64] fun ds => ([dS ds 0 = blank], .sv (.one (.str (sp 64))))
theorem rep_pick : TT.pick (runC Try.prog [ctM, ctHp] (lpStuck (bodyOf Try.f80)) [] 40 Try.f80 (bodyOf Try.f80) [.one (.strn blank 1 blank_size), .one (.lit .i64 64)]) = some (repN, .sv (.one (.str ((sp 128).extract 0 64)))) := by kernel_rfl
theorem rep_pick2 : TT.pick (runC Try.prog [ctM, ctHp] (lpStuck (bodyOf Try.f80)) [] 40 Try.f80 (bodyOf Try.f80) [.one (.strn blank 1 blank_size), .one (.lit .i64 64)]) = some (repN, .sv (.one (.str (sp 64)))) := by
  rw [← sp_half]
  exact rep_pick
theorem repN_ok : ∀ p ∈ repN, p := by
  intro p hp
  simp only [repN, List.mem_cons, List.not_mem_nil, or_false, sp_size] at hp
  rcases hp with rfl
  decide
theorem rep_all : ∀ T : TT, T = runC Try.prog [ctM, ctHp] (lpStuck (bodyOf Try.f80)) [] 40 Try.f80 (bodyOf Try.f80) [.one (.strn blank 1 blank_size), .one (.lit .i64 64)] → T.wp (fun x => x = .sv (.one (.str (sp 64)))) := fun T hT => TT.pick_wp (by rw [hT]; exact rep_pick2) repN_ok
theorem run_all {P : Program} {cts : List Ct} {fz : List Nat} {fuel : Nat} {fn : Func} {c : Code} {K : TV → Prop} {svs : List SV} (lps : List (Nat × (St → Tree))) (h1 : ∀ body ∈ loopsOf c, ∀ g, findLp (codeKey body) lps = some g → LpOk P body g) (args : List SV)
    (h2 : ∀ β vs, all2 (SV.is β) svs vs → all2 (SV.is β) args vs) (h : ∀ T : TT, T = runC P cts lps fz fuel fn c args → T.wp K) :
    ∃ lps, (∀ body ∈ loopsOf c, ∀ g, findLp (codeKey body) lps = some g → LpOk P body g) ∧ ∃ args, (∀ β vs, all2 (SV.is β) svs vs → all2 (SV.is β) args vs) ∧ (runC P cts lps fz fuel fn c args).wp K := ⟨lps, h1, args, h2, h _ rfl⟩
theorem rep_args : ∀ (β : Env) (vs : List Value), all2 (SV.is β) (svAll [.str, .con .i64 64] [.S blank, .I 64]) vs → all2 (SV.is β) [.one (.strn blank 1 blank_size), .one (.lit .i64 64)] vs := fun _ vs r => (by cases vs with | nil => exact r.elim | cons v vs => cases vs with | nil => exact r.2.elim | cons u us => exact r)
theorem ctRep_ok : CtOk Try.prog ctRep :=
  runCtL_ok (cts := [ctM, ctHp]) (fz := []) (fuel := 40) mix (allOk ⟨ctM_ok, ctHp_ok, trivial⟩) Try.func80 (c := bodyOf Try.f80) (by kernel_rfl) (by kernel_rfl) (fun _ => rfl) fun ds h hn => match ds, h, hn with
    | [.S s, .I n], h, hn => by
      have hs : s = blank := hn _ (List.mem_cons_self ..)
      subst hs
      have hn : n = 64 := h.2.1
      subst hn
      exact run_all (lpStuck (bodyOf Try.f80)) lpStuck_ok [.one (.strn blank 1 blank_size), .one (.lit .i64 64)] rep_args rep_all
def tlsW : ByteArray := ⟨#[84, 76, 83, 32, 49, 46, 51, 44, 32]⟩
def whoW (b : Bool) : ByteArray := bif b then ⟨#[115, 101, 114, 118, 101, 114]⟩ else ⟨#[99, 108, 105, 101, 110, 116]⟩
def cvW : ByteArray := ⟨#[32, 67, 101, 114, 116, 105, 102, 105, 99, 97, 116, 101, 86, 101, 114, 105, 102, 121, 0]⟩
theorem whoW_size (b : Bool) : (whoW b).size = 6 := by cases b <;> rfl
def headW (b : Bool) : ByteArray := sp 64 ++ tlsW ++ whoW b ++ cvW
theorem headW_size (b : Bool) : (headW b).size = 98 := by
  unfold headW
  rw [ByteArray.size_append, ByteArray.size_append, ByteArray.size_append, sp_size, whoW_size]
  rfl
def sgnS (b : Bool) (t : ByteArray) : ByteArray := headW b ++ Sh32.dgS t
theorem sgnS_size (b : Bool) (t : ByteArray) : (sgnS b t).size = 130 := by unfold sgnS; rw [ByteArray.size_append, headW_size, Sh32.dgS_size]
def same (b : Bool) (t : ByteArray) : ByteArray := bif b then t else t
def sgnN (b : Bool) (t : ByteArray) (d : ByteArray) : List Prop := [(sp 64).size + tlsW.size ≤ 9223372036854775807, (sp 64 ++ tlsW).size + (whoW b).size ≤ 9223372036854775807, (sp 64 ++ tlsW ++ whoW b).size + cvW.size ≤ 9223372036854775807, t.size ≤ 1099511627776, (headW b).size + d.size ≤ 9223372036854775807]
theorem sgnN_ok {b : Bool} {t d : ByteArray} (ht : t.size ≤ 1099511627776) (hd : d.size = 32) : ∀ p ∈ sgnN b t d, p := by
  intro p hp
  have e1 : tlsW.size = 9 := rfl
  have e2 : cvW.size = 19 := rfl
  simp only [sgnN, List.mem_cons, List.not_mem_nil, or_false, ByteArray.size_append, sp_size, whoW_size, headW_size, e1, e2, hd] at hp
  rcases hp with rfl | rfl | rfl | rfl | rfl <;> omega
def sgnOut (ds : List D) : List Prop × TV := ([(dS ds 1).size ≤ 1099511627776], .sv (.one (.str (sgnS (dB ds 0) (dS ds 1)))))
def ctSigned : Ct := shCt 56 [.bool, .str] sgnOut
theorem ctSigned_ok : CtOk Try.prog ctSigned :=
  runCtL_ok (cts := [ctRep, Sh32.ctSum]) (fz := []) (fuel := 40) mix (allOk ⟨ctRep_ok, Sh32.ctSum_ok, trivial⟩) Try.func56 (c := bodyOf Try.f56) (by kernel_rfl) (by kernel_rfl) (fun _ => rfl) fun ds h hn => match ds, h, hn with
    | [.B b, .S t], h, hn => by
      refine ⟨[], (fun _ _ _ hg => by cases hg), _, viewArgs_is h, ?_⟩
      have hr : runC Try.prog [ctRep, Sh32.ctSum] [] [] 40 Try.f56 (bodyOf Try.f56) (viewArgs [.bool, .str] [.B b, .S t] h) = .need (blank = blank) (needT (sgnN b (same b t) (Sh32.dgS (same b t))) (.leaf (.sv (.one (.str (sgnS b (same b t))))))) := by kernel_rfl
      have e : same b t = t := Bool.cond_self ..
      rw [hr, e]
      exact ⟨rfl, needT_wp (sgnN_ok (hn _ (List.mem_cons_self ..)) (Sh32.dgS_size _)) rfl⟩
def spc : Nat → ByteArray
  | 0 => ⟨#[]⟩
  | n + 1 => spc n ++ blank
theorem spc64 : spc 64 = sp 64 := by decide +kernel
def ctSignedR : Ct := shCt 57 [.bool, .str] sgnOut
theorem ctSignedR_ok : CtOk Try.prog ctSignedR :=
  runCtL_ok (cts := [Sh32.ctSumR]) (fz := []) (fuel := 70) mix (allOk ⟨Sh32.ctSumR_ok, trivial⟩) Try.func57 (c := bodyOf Try.f57) (by kernel_rfl) (by kernel_rfl) (fun _ => rfl) fun ds h hn => match ds, h, hn with
    | [.B b, .S t], h, hn => by
      have ht : t.size ≤ 1099511627776 := hn _ (List.mem_cons_self ..)
      refine ⟨[], (fun _ _ _ hg => by cases hg), _, viewArgs_is h, ?_⟩
      have hr : runC Try.prog [Sh32.ctSumR] [] [] 70 Try.f57 (bodyOf Try.f57) (viewArgs [.bool, .str] [.B b, .S t] h) = .need ((same b t).size ≤ 1099511627776) (.leaf (.sv (.one (.str (spc 64 ++ tlsW ++ whoW b ++ cvW ++ Sh32.smS (same b t)))))) := by kernel_rfl
      have e : same b t = t := Bool.cond_self ..
      rw [hr, e, spc64, Sh32.sm_eq ht]
      exact ⟨ht, rfl⟩
end Go.Proofs.Ytihmhnfjdkkbgaa
