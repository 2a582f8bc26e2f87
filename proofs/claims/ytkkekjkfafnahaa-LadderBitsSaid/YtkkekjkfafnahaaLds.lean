/- The walk of the package cressetref09: its Share. -/
import Derived.Test.YtkkekjkfafnahaaLdr
noncomputable section
namespace Go.Proofs.Ytkkekjkfafnahaa.Fd
open Go Go.RowKit RX
set_option linter.unusedSimpArgs false
set_option maxRecDepth 1000000
def uR (p : ByteArray) : List Int := ofR (maskR p)
def TS9 (i : Int) (k u : List Int) (s : R4) : St := ⟨tmL 154 [(6, .sv (.one (.slc 0 0 32 none))), (7, .sv (.one (.frz .i64 u 16))), (9, .sv (.one (.frz .i64 s.a 16))), (10, .sv (.one (.frz .i64 s.b 16))), (11, .sv (.one (.frz .i64 s.c 16))), (12, .sv (.one (.frz .i64 s.d 16))), (13, .sv (.one (.int .i64 i)))], [.blk 5 (cellsL .u8 32 k)]⟩
def shS (st : St) : St := cut 1 (mask [6, 7, 9, 10, 11, 12, 13] [13] st)
theorem hwS : Weak NoS shS := Weak.comp (f := mask [6, 7, 9, 10, 11, 12, 13] [13]) (g := cut 1) (mask_weak NoS [6, 7, 9, 10, 11, 12, 13] [13]) (cut_weak fun S h m k hm => by have := h m; rw [this] at hm; cases hm)
def vI (k : List Int) (i : Int) : Int := andI .u8 (shrI .u8 ((toLen 32 k).getD (0 + (IntKind.i64.wrap (i.tdiv 8)).toNat) 0) (i.tmod 8).toNat) 1
def xI (k : List Int) (i : Int) : Bool := vI k i == 1
def x2I (k : List Int) (i : Int) : Bool := (bif xI k i then vI k i else vI k i) == 1
theorem x2I_eq (k : List Int) (i : Int) : x2I k i = xI k i := by unfold x2I; rw [Bool.cond_self]; rfl
theorem roundS (i : Int) (k u : List Int) (s : R4) : (exec Try.prog [ctSmallR, ctMulR, ctAddR, ctSubR] [] [] 0 (loopAt (bodyOf Try.f43) 12) (TS9 i k u s)).shape shS shS =
    .br (decide (i ≥ 0)) (needs (needsL k i) (.leaf .normal (TS9 (IntKind.i64.wrap ((bif x2I k i then (bif xI k i then i else i) else (bif xI k i then i else i)) - 1)) (keepL 32 (x2I k i) (keepL 32 (xI k i) k)) (keepR (x2I k i) (keepR (xI k i) u)) (swapR (x2I k i) (upR (swapR (xI k i) s) (keepR (xI k i) u)))))) (.leaf (.exit 0) (TS9 i k u s)) := by kernel_rfl
theorem xI_eq (k : List Int) {j : Nat} (h : j ≤ 254) : xI k (j : Int) = bitR k j := bitI_eq k h
def endS (k u : List Int) : Tree := .leaf (.exit 0) (TS9 (-1) (kkR k 255) (uuR k u 255) (ladR k u 255))
theorem loopS (k u : List Int) : LpOk Try.prog (loopAt (bodyOf Try.f43) 12) (fun st => .need (shS st = TS9 254 k u (ladR k u 0)) (endS k u)) := by
  refine loop_tpl (P := Try.prog) (cts := [ctSmallR, ctMulR, ctAddR, ctSubR]) (lps := []) (fz := []) (fuel := 0) (sh := shS) (shx := shS) mix (allOk ⟨ctSmallR_ok, ctMulR_ok, ctAddR_ok, ctSubR_ok, trivial⟩) (.inl rfl) (fun _ _ f hf => by cases hf)
    hwS hwS (fun (n : Nat) => TS9 (254 - (n : Int)) (kkR k n) (uuR k u n) (ladR k u n)) (fun n => n ≤ 255) (fun (n : Nat) => 255 - n) (fun _ => endS k u) ?_ (a0 := 0) (Nat.zero_le _)
  intro n hn K hK
  rw [roundS]
  refine ⟨fun hb => ?_, fun hb => ?_⟩
  · have hlt : n ≤ 254 := by
      have := of_decide_eq_true hb
      omega
    have ei : 254 - (n : Int) = ((254 - n : Nat) : Int) := by omega
    rw [ei, x2I_eq, xI_eq _ (Nat.sub_le _ _)]
    refine needs_wp2 (needsL_ok _ (Nat.sub_le _ _)) ⟨n + 1, ?_, (show n + 1 ≤ 255 by omega), ?_, hK⟩
    · have e1 : IntKind.i64.wrap ((bif bitR (kkR k n) (254 - n) then (bif bitR (kkR k n) (254 - n) then ((254 - n : Nat) : Int) else ((254 - n : Nat) : Int)) else (bif bitR (kkR k n) (254 - n) then ((254 - n : Nat) : Int) else ((254 - n : Nat) : Int))) - 1) = 254 - ((n + 1 : Nat) : Int) := by
        rw [Bool.cond_self, Bool.cond_self, IntWalk.i64_in _ (by omega)]
        omega
      rw [e1]
      rfl
    · show 255 - (n + 1) < 255 - n
      omega
  · have hge : n = 255 := by
      have := of_decide_eq_false hb
      omega
    subst hge
    exact hK
theorem only12 : ((loopsOf (bodyOf Try.f43)).filter fun b => codeKey b == 12) = [loopAt (bodyOf Try.f43) 12] := by kernel_rfl
def lpsSR (a b : ByteArray) : List (Nat × (St → Tree)) := [(12, fun st => .need (shS st = TS9 254 (scalarR a) (uR b) (ladR (scalarR a) (uR b) 0)) (endS (scalarR a) (uR b)))]
def ctShareR : Ct := shCt 43 [.strn 32, .strn 32] fun ds => ([], zS (zR (scalarR (dS ds 0)) (uR (dS ds 1))) (BR (quotR (scalarR (dS ds 0)) (uR (dS ds 1)))))
theorem ctShareR_ok : CtOk Try.prog ctShareR :=
  runCtL_ok (cts := [ctOfRef, ctSmallR, ctBytesR, ctMulR, ctInvR, ctAddR, ctSubR]) (fz := []) (fuel := 40) mix (allOk ⟨ctOfRef_ok, ctSmallR_ok, ctBytesR_ok, ctMulR_ok, ctInvR_ok, ctAddR_ok, ctSubR_ok, trivial⟩) Try.func43 (c := bodyOf Try.f43) (by kernel_rfl) (by kernel_rfl) (fun _ => rfl) fun ds h _ => match ds, h with
    | [.S a, .S b], h => by
      refine ⟨lpsSR a b, lpsOk (c := bodyOf Try.f43) (lps := lpsSR a b) ⟨fun body hb hk => ?_, trivial⟩, _, viewArgs_is h, ?_⟩
      · rw [loopAt_is only12 hb hk]
        exact loopS (scalarR a) (uR b)
      · have hr : runC Try.prog [ctOfRef, ctSmallR, ctBytesR, ctMulR, ctInvR, ctAddR, ctSubR] (lpsSR a b) [] 40 Try.f43 (bodyOf Try.f43) (viewArgs [.strn 32, .strn 32] [.S a, .S b] h) =
          .need (TS9 254 (scalarR a) (uR b) (ladR (scalarR a) (uR b) 0) = TS9 254 (scalarR a) (uR b) (ladR (scalarR a) (uR b) 0)) (.br (zR (scalarR a) (uR b)) (.leaf noKey) (.leaf (keyT (BR (quotR (scalarR a) (uR b)))))) := by kernel_rfl
        rw [hr]
        refine ⟨rfl, ?_⟩
        show TT.wp _ (fun x => x = (zS (zR (scalarR a) (uR b)) (BR (quotR (scalarR a) (uR b)))).norm)
        generalize zR (scalarR a) (uR b) = z
        cases z
        · exact TT.br_f rfl rfl
        · exact TT.br_t rfl rfl
end Go.Proofs.Ytkkekjkfafnahaa.Fd
