/- The walk of the package cressetref11: a point so many times. -/
import Derived.Test.YtkkekjkfafnahaaPtr
noncomputable section
namespace Go.Proofs.Ytkkekjkfafnahaa.Fd
open Go Go.RowKit RX
set_option linter.unusedSimpArgs false
set_option maxRecDepth 1000000
def TMq (i : Int) (n : ByteArray) (p : R4) (k : List Int) (o : R4) : St := ⟨tmL 37 [(1, .sv (.one (.str n))), (2, .sv (.one (.ptr 0 0))), (4, .sv (.one (.ptr 1 0))), (6, .sv (.one (.frz .i64 k 16))), (7, .sv (.one (.ptr 2 0))), (8, .sv (.one (.int .i64 i)))], [.blk 61 [.frz .i64 p.a 16, .frz .i64 p.b 16, .frz .i64 p.c 16, .frz .i64 p.d 16], .blk 61 [.any, .any, .any, .any], .blk 61 [.frz .i64 o.a 16, .frz .i64 o.b 16, .frz .i64 o.c 16, .frz .i64 o.d 16]]⟩
def shMq (st : St) : St := cut 3 (anyB 1 (mask [1, 2, 4, 6, 7, 8] [1, 8] st))
theorem hwMq : Weak NoS shMq := Weak.comp (f := fun st => anyB 1 (mask [1, 2, 4, 6, 7, 8] [1, 8] st)) (g := cut 3) (Weak.comp (f := mask [1, 2, 4, 6, 7, 8] [1, 8]) (g := anyB 1) (mask_weak NoS [1, 2, 4, 6, 7, 8] [1, 8]) (anyB_weak NoS 1)) (cut_weak fun S h m k hm => by have := h m; rw [this] at hm; cases hm)
theorem roundMq (i : Int) (n : ByteArray) (p o : R4) (k : List Int) : (exec Try.prog [ctTogR] [] [] 0 (loopAt (bodyOf Try.f61) 6) (TMq i n p k o)).shape shMq shMq =
    .br (decide (i ≥ 0)) (needs (needsM n i) (.leaf .normal (TMq (IntKind.i64.wrap ((bif bitM n i then i else i) - 1)) (bif bitM n i then n else n) (pickR (bitM n i) p p) (bif bitM n i then k else k) (stepR4 (bitM n i) (t16 k) p o)))) (.leaf (.exit 0) (TMq i n p k o)) := by kernel_rfl
theorem pickR_self (b : Bool) (p : R4) : pickR b p p = p := by cases b <;> rfl
def endMq (n : ByteArray) (p : R4) (k : List Int) : Tree := .leaf (.exit 0) (TMq (-1) n p k (mulPR (t16 k) p n 256))
theorem loopMq {n : ByteArray} (hn : n.size = 32) (p : R4) (k : List Int) : LpOk Try.prog (loopAt (bodyOf Try.f61) 6) (fun st => .need (shMq st = TMq 255 n p k zeroPR) (endMq n p k)) := by
  refine loop_tpl (P := Try.prog) (cts := [ctTogR]) (lps := []) (fz := []) (fuel := 0) (sh := shMq) (shx := shMq) mix (allOk ⟨ctTogR_ok, trivial⟩) (.inl rfl) (fun _ _ f hf => by cases hf)
    hwMq hwMq (fun (j : Nat) => TMq (255 - (j : Int)) n p k (mulPR (t16 k) p n j)) (fun j => j ≤ 256) (fun (j : Nat) => 256 - j) (fun _ => endMq n p k) ?_ (a0 := 0) (Nat.zero_le _)
  intro j hj K hK
  rw [roundMq]
  refine ⟨fun hb => ?_, fun hb => ?_⟩
  · have hlt : j ≤ 255 := by
      have := of_decide_eq_true hb
      omega
    have ei : 255 - (j : Int) = ((255 - j : Nat) : Int) := by omega
    rw [ei, bitM_eq _ (Nat.sub_le _ _), Bool.cond_self, Bool.cond_self, Bool.cond_self, pickR_self]
    refine needs_wp2 (needsM_ok hn (Nat.sub_le _ _)) ⟨j + 1, ?_, (show j + 1 ≤ 256 by omega), ?_, hK⟩
    · have e1 : IntKind.i64.wrap (((255 - j : Nat) : Int) - 1) = 255 - ((j + 1 : Nat) : Int) := by
        rw [IntWalk.i64_in _ (by omega)]
        omega
      rw [e1]
      rfl
    · show 256 - (j + 1) < 256 - j
      omega
  · have hge : j = 256 := by
      have := of_decide_eq_false hb
      omega
    subst hge
    exact hK
theorem only6q : ((loopsOf (bodyOf Try.f61)).filter fun b => codeKey b == 6) = [loopAt (bodyOf Try.f61) 6] := by kernel_rfl
def lpsMq (n : ByteArray) (p : R4) : List (Nat × (St → Tree)) := [(6, fun st => .need (shMq st = TMq 255 n p kR zeroPR) (endMq n p kR))]
def ctMulPR : Ct := shCt 61 [.frzs .i64 16 4, .strn 32] fun ds => ([], .tup [ptS (mulPR (t16 kR) (r4 (dLL ds 0)) (dS ds 1) 256), .one (.int .i64 0)])
theorem ctMulPR_ok : CtOk Try.prog ctMulPR :=
  runCtL_ok (cts := [ctTogR, ctDoubleR, ctZeroPR]) (fz := []) (fuel := 10) mix (allOk ⟨ctTogR_ok, ctDoubleR_ok, ctZeroPR_ok, trivial⟩) Try.func61 (c := bodyOf Try.f61) (by kernel_rfl) (by kernel_rfl) (fun _ => rfl) fun ds h _ => match ds, h with
    | [.LL l, .S n], h => by
      have hn : n.size = 32 := h.2.1
      obtain ⟨a, b, c, d, rfl⟩ := four h.1.1
      refine ⟨lpsMq n ⟨a, b, c, d⟩, lpsOk (c := bodyOf Try.f61) (lps := lpsMq n ⟨a, b, c, d⟩) ⟨fun body hb hk => ?_, trivial⟩, _, viewArgs_is h, ?_⟩
      · rw [loopAt_is only6q hb hk]
        exact loopMq hn ⟨a, b, c, d⟩ kR
      · have hr : runC Try.prog [ctTogR, ctDoubleR, ctZeroPR] (lpsMq n ⟨a, b, c, d⟩) [] 10 Try.f61 (bodyOf Try.f61) (viewArgs [.frzs .i64 16 4, .strn 32] [.LL [a, b, c, d], .S n] h) =
          .need (TMq 255 n ⟨a, b, c, d⟩ kR zeroPR = TMq 255 n ⟨a, b, c, d⟩ kR zeroPR) (.leaf (.tup [ptS (mulPR (t16 kR) ⟨a, b, c, d⟩ n 256), .one (.int .i64 0)])) := by kernel_rfl
        rw [hr]
        exact ⟨rfl, rfl⟩
end Go.Proofs.Ytkkekjkfafnahaa.Fd
