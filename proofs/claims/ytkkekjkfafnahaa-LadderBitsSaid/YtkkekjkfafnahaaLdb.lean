/- The walk of the package ladder: what a secret and another one's public key come to. -/
import Derived.Test.YtkkekjkfafnahaaLda
import Derived.Test.YtkkekjkfafnahaaRxS
noncomputable section
namespace Go.Proofs.Ytkkekjkfafnahaa.Fd
open Go Go.RowKit RX
set_option linter.unusedSimpArgs false
set_option maxRecDepth 1000000
/-- The public key's bytes but the last one's highest bit. -/
def maskL (s : ByteArray) : List Int := (List.range 32).map fun i => match i with
  | 31 => andI .u8 (sbyte s 31) 127
  | i => sbyte s i
def maskS (s : ByteArray) : ByteArray := strOfNums (maskL s)
def bitL (k : List Int) (i : Nat) : Bool := andI .u8 (shrI .u8 (k.getD (i / 8) 0) (i % 8)) 1 == 1
def stepL (b : Bool) (r u : List Int) : List Int := (List.range 20).map fun i => bif b then (turnL (toLen 20 (upL (toLen 20 (turnL r)) u))).getD i 0 else (upL r u).getD i 0
def startL (u : List Int) : List Int := cat4 (smallF 1) (smallF 0) u (smallF 1)
/-- What is left as it is, behind a test's two ways. -/
def keepL (n : Nat) (b : Bool) (L : List Int) : List Int := (List.range n).map fun i => bif b then L.getD i 0 else L.getD i 0
def kkL (k : List Int) : Nat → List Int
  | 0 => k
  | n + 1 => keepL 32 (bitL (kkL k n) (254 - n)) (kkL k n)
def uuL (k u : List Int) : Nat → List Int
  | 0 => u
  | n + 1 => keepL 5 (bitL (kkL k n) (254 - n)) (uuL k u n)
def ladL (k u : List Int) : Nat → List Int
  | 0 => startL u
  | n + 1 => stepL (bitL (kkL k n) (254 - n)) (ladL k u n) (uuL k u n)
def quotL (k u : List Int) : List Int := mulF (part (ladL k u 255) 0) (toLen 5 (invF (part (ladL k u 255) 1)))
def uL (p : ByteArray) : List Int := toLen 5 (ofF (maskS p))
def zL (k u : List Int) : Bool := toLen 5 (quotL k u) == small5 0
def noKey : TV := .tup [.one (.str .empty), .one (.int .i64 21)]
def keyT (s : ByteArray) : TV := .tup [.one (.str s), .one (.int .i64 0)]
def zS (z : Bool) (s : ByteArray) : TV := .tup [.one (.str (bif z then .empty else s)), .one (.int .i64 (bif z then 21 else 0))]
/-! ### The rungs, one by one -/
def TL (i : Int) (k u r : List Int) : St := ⟨tmL 73 [(6, .sv (.one (.ptr 0 0))), (8, .sv (.one (.ptr 2 0))), (10, .sv (.one (.ptr 3 0))), (11, .sv (.one (.int .i64 i)))], [.blk 76 (cellsL .u8 32 k), .dead, .blk 25 (cellsL .u64 5 u), .blk 91 (cellsL .u64 20 r)]⟩
def shL (st : St) : St := cut 4 (keepS [0, 2, 3] (mask [6, 8, 10, 11] [11] st))
theorem hwL : Weak NoS shL := Weak.comp (f := fun st => keepS [0, 2, 3] (mask [6, 8, 10, 11] [11] st)) (g := cut 4) (Weak.comp (f := mask [6, 8, 10, 11] [11]) (g := keepS [0, 2, 3]) (mask_weak NoS [6, 8, 10, 11] [11]) (keepS_weak NoS [0, 2, 3])) (cut_weak fun S h m k hm => by have := h m; rw [this] at hm; cases hm)
def bitI (k : List Int) (i : Int) : Bool := andI .u8 (shrI .u8 ((toLen 32 k).getD (0 + (IntKind.i64.wrap (i.tdiv 8)).toNat) 0) (i.tmod 8).toNat) 1 == 1
theorem bitI_eq (k : List Int) {j : Nat} (h : j ≤ 254) : bitI k (j : Int) = bitL k j := by
  unfold bitI bitL
  have e1 : (j : Int).tdiv 8 = ((j / 8 : Nat) : Int) := by rw [Int.tdiv_eq_ediv_of_nonneg (by omega)]; omega
  have e2 : (j : Int).tmod 8 = ((j % 8 : Nat) : Int) := by rw [Int.tmod_eq_emod_of_nonneg (by omega)]; omega
  rw [e1, e2, IntWalk.i64_in _ (by omega), Int.toNat_natCast, Int.toNat_natCast, Nat.zero_add, toLen_getD (by omega)]
def needsL (k : List Int) (i : Int) : List Prop := [0 ≤ IntKind.i64.wrap (i.tdiv 8), IntKind.i64.wrap (i.tdiv 8) < ((32 : Nat) : Int), 0 + (IntKind.i64.wrap (i.tdiv 8)).toNat < (toLen 32 k).length, 0 ≤ i.tmod 8]
theorem roundL (i : Int) (k u r : List Int) : (exec Try.prog [ctTurned, ctUp] [] [] 0 (loopAt (bodyOf Try.f42) 9) (TL i k u r)).shape shL shL =
    .br (decide (i ≥ 0)) (needs (needsL k i) (.leaf .normal (TL (IntKind.i64.wrap ((bif bitI k i then i else i) - 1)) (keepL 32 (bitI k i) k) (keepL 5 (bitI k i) u) (stepL (bitI k i) r u)))) (.leaf (.exit 0) (TL i k u r)) := by kernel_rfl
theorem needs_wp2 {K : Ex → St → Prop} : ∀ {l : List Prop} {t : Tree}, (∀ p ∈ l, p) → t.wp K → (needs l t).wp K
  | [], _, _, h => h
  | p :: r, _, hl, h => ⟨hl p (by simp), needs_wp2 (fun q hq => hl q (by simp [hq])) h⟩
theorem needsL_ok (k : List Int) {j : Nat} (h : j ≤ 254) : ∀ p ∈ needsL k (j : Int), p := by
  intro p hp
  have e1 : (j : Int).tdiv 8 = ((j / 8 : Nat) : Int) := by rw [Int.tdiv_eq_ediv_of_nonneg (by omega)]; omega
  have e2 : (j : Int).tmod 8 = ((j % 8 : Nat) : Int) := by rw [Int.tmod_eq_emod_of_nonneg (by omega)]; omega
  have e3 : IntKind.i64.wrap ((j / 8 : Nat) : Int) = ((j / 8 : Nat) : Int) := IntWalk.i64_in _ (by omega)
  unfold needsL at hp
  rw [e1, e2, e3, toLen_length] at hp
  simp only [List.mem_cons, List.not_mem_nil, or_false] at hp
  rcases hp with rfl | rfl | rfl | rfl <;> omega
def endL (k u : List Int) : Tree := .leaf (.exit 0) (TL (-1) (kkL k 255) (uuL k u 255) (ladL k u 255))
theorem loopL (k u : List Int) : LpOk Try.prog (loopAt (bodyOf Try.f42) 9) (fun st => .need (shL st = TL 254 k u (startL u)) (endL k u)) := by
  refine loop_tpl (P := Try.prog) (cts := [ctTurned, ctUp]) (lps := []) (fz := []) (fuel := 0) (sh := shL) (shx := shL) mix (allOk ⟨ctTurned_ok, ctUp_ok, trivial⟩) (.inl rfl) (fun _ _ f hf => by cases hf)
    hwL hwL (fun (n : Nat) => TL (254 - (n : Int)) (kkL k n) (uuL k u n) (ladL k u n)) (fun n => n ≤ 255) (fun (n : Nat) => 255 - n) (fun _ => endL k u) ?_ (a0 := 0) (Nat.zero_le _)
  intro n hn K hK
  rw [roundL]
  refine ⟨fun hb => ?_, fun hb => ?_⟩
  · have hlt : n ≤ 254 := by
      have := of_decide_eq_true hb
      omega
    have ei : 254 - (n : Int) = ((254 - n : Nat) : Int) := by omega
    rw [ei, bitI_eq _ (Nat.sub_le _ _)]
    refine needs_wp2 (needsL_ok _ (Nat.sub_le _ _)) ⟨n + 1, ?_, (show n + 1 ≤ 255 by omega), ?_, hK⟩
    · have e1 : IntKind.i64.wrap ((bif bitL (kkL k n) (254 - n) then ((254 - n : Nat) : Int) else ((254 - n : Nat) : Int)) - 1) = 254 - ((n + 1 : Nat) : Int) := by
        rw [Bool.cond_self, IntWalk.i64_in _ (by omega)]
        omega
      rw [e1]
      rfl
    · show 255 - (n + 1) < 255 - n
      omega
  · have hge : n = 255 := by
      have := of_decide_eq_false hb
      omega
    subst hge
    exact hK
theorem only9 : ((loopsOf (bodyOf Try.f42)).filter fun b => codeKey b == 9) = [loopAt (bodyOf Try.f42) 9] := by kernel_rfl
def lpsSh (a b : ByteArray) : List (Nat × (St → Tree)) := [(9, fun st => .need (shL st = TL 254 (scalarL a) (uL b) (startL (uL b))) (endL (scalarL a) (uL b)))]
def ctShareL : Ct := shCt 42 [.strn 32, .strn 32] fun ds => ([], zS (zL (scalarL (dS ds 0)) (uL (dS ds 1))) (BF (quotL (scalarL (dS ds 0)) (uL (dS ds 1)))))
theorem ctShareL_ok : CtOk Try.prog ctShareL :=
  runCtL_ok (cts := [ctScalarL, ctTurned, ctUp, ctOf, ctSmallF, ctBytesF, ctMulF, ctInvF]) (fz := []) (fuel := 10) mix (allOk ⟨ctScalarL_ok, ctTurned_ok, ctUp_ok, ctOf_ok, ctSmallF_ok, ctBytesF_ok, ctMulF_ok, ctInvF_ok, trivial⟩) Try.func42 (c := bodyOf Try.f42) (by kernel_rfl) (by kernel_rfl) (fun _ => rfl) fun ds h _ => match ds, h with
    | [.S a, .S b], h => by
      refine ⟨lpsSh a b, lpsOk (c := bodyOf Try.f42) (lps := lpsSh a b) ⟨fun body hb hk => ?_, trivial⟩, _, viewArgs_is h, ?_⟩
      · rw [loopAt_is only9 hb hk]
        exact loopL (scalarL a) (uL b)
      · have hr : runC Try.prog [ctScalarL, ctTurned, ctUp, ctOf, ctSmallF, ctBytesF, ctMulF, ctInvF] (lpsSh a b) [] 10 Try.f42 (bodyOf Try.f42) (viewArgs [.strn 32, .strn 32] [.S a, .S b] h) =
          .need (TL 254 (scalarL a) (uL b) (startL (uL b)) = TL 254 (scalarL a) (uL b) (startL (uL b))) (.br (zL (scalarL a) (uL b)) (.leaf noKey) (.leaf (keyT (BF (quotL (scalarL a) (uL b)))))) := by kernel_rfl
        rw [hr]
        refine ⟨rfl, ?_⟩
        show TT.wp _ (fun x => x = (zS (zL (scalarL a) (uL b)) (BF (quotL (scalarL a) (uL b)))).norm)
        generalize zL (scalarL a) (uL b) = z
        cases z
        · exact TT.br_f rfl rfl
        · exact TT.br_t rfl rfl
end Go.Proofs.Ytkkekjkfafnahaa.Fd
