/- The walk of the package point: a point so many times. -/
import Derived.Test.YtkkekjkfafnahaaPta
import Derived.Test.YtkkekjkfafnahaaLdb
noncomputable section
namespace Go.Proofs.Ytkkekjkfafnahaa.Fd
open Go Go.RowKit RX
set_option linter.unusedSimpArgs false
set_option maxRecDepth 1000000
def bitS (n : ByteArray) (i : Nat) : Bool := andI .u8 (shrI .u8 (sbyte n ((i / 8 : Nat) : Int)) (i % 8)) 1 == 1
def stepP (b : Bool) (k p o : List Int) : List Int := (List.range 20).map fun i => bif b then (addP (toLen 20 (addP (toLen 20 o) (toLen 20 o) (toLen 5 k))) (toLen 20 p) (toLen 5 k)).getD i 0 else (addP (toLen 20 o) (toLen 20 o) (toLen 5 k)).getD i 0
def mulP (k p : List Int) (n : ByteArray) : Nat → List Int
  | 0 => zero20
  | i + 1 => stepP (bitS n (255 - i)) k p (mulP k p n i)
def TM (i : Int) (n : ByteArray) (p k r o : List Int) : St := ⟨tmL 38 [(1, .sv (.one (.str n))), (2, .sv (.one (.ptr 0 0))), (4, .sv (.one (.ptr 1 0))), (6, .sv (.one (.ptr 2 0))), (7, .sv (.one (.ptr 3 0))), (8, .sv (.one (.int .i64 i)))], [.blk 57 (cellsL .u64 20 p), .blk 57 (cellsL .u64 20 r), .blk 25 (cellsL .u64 5 k), .blk 57 (cellsL .u64 20 o)]⟩
def shM (st : St) : St := cut 4 (normB 1 (normB 3 (keepS [0, 1, 2, 3] (mask [1, 2, 4, 6, 7, 8] [1, 8] st))))
theorem hwM : Weak NoS shM := Weak.comp (f := fun st => normB 1 (normB 3 (keepS [0, 1, 2, 3] (mask [1, 2, 4, 6, 7, 8] [1, 8] st)))) (g := cut 4) (Weak.comp (f := fun st => normB 3 (keepS [0, 1, 2, 3] (mask [1, 2, 4, 6, 7, 8] [1, 8] st))) (g := normB 1) (Weak.comp (f := fun st => keepS [0, 1, 2, 3] (mask [1, 2, 4, 6, 7, 8] [1, 8] st)) (g := normB 3) (Weak.comp (f := mask [1, 2, 4, 6, 7, 8] [1, 8]) (g := keepS [0, 1, 2, 3]) (mask_weak NoS [1, 2, 4, 6, 7, 8] [1, 8]) (keepS_weak NoS [0, 1, 2, 3])) (normB_weak NoS 3)) (normB_weak NoS 1)) (cut_weak fun S h m k hm => by have := h m; rw [this] at hm; cases hm)
def bitM (n : ByteArray) (i : Int) : Bool := andI .u8 (shrI .u8 (sbyte n (IntKind.i64.wrap (i.tdiv 8))) (i.tmod 8).toNat) 1 == 1
def needsM (n : ByteArray) (i : Int) : List Prop := [0 ≤ IntKind.i64.wrap (i.tdiv 8), IntKind.i64.wrap (i.tdiv 8) < n.size, 0 ≤ i.tmod 8]
theorem roundM (i : Int) (n : ByteArray) (p k r o : List Int) : (exec Try.prog [ctAddKP] [] [] 0 (loopAt (bodyOf Try.f60) 6) (TM i n p k r o)).shape shM shM =
    .br (decide (i ≥ 0)) (needs (needsM n i) (.leaf .normal (TM (IntKind.i64.wrap ((bif bitM n i then i else i) - 1)) (bif bitM n i then n else n) (keepL 20 (bitM n i) p) (keepL 5 (bitM n i) k) (keepL 20 (bitM n i) r) (stepP (bitM n i) k p o)))) (.leaf (.exit 0) (TM i n p k r o)) := by kernel_rfl
theorem keepL_id {n : Nat} {L : List Int} (b : Bool) (h : toLen n L = L) : keepL n b L = L := by
  unfold keepL
  simp only [Bool.cond_self]
  exact h
theorem bitM_eq (n : ByteArray) {j : Nat} (h : j ≤ 255) : bitM n (j : Int) = bitS n j := by
  unfold bitM bitS
  have e1 : (j : Int).tdiv 8 = ((j / 8 : Nat) : Int) := by rw [Int.tdiv_eq_ediv_of_nonneg (by omega)]; omega
  have e2 : (j : Int).tmod 8 = ((j % 8 : Nat) : Int) := by rw [Int.tmod_eq_emod_of_nonneg (by omega)]; omega
  rw [e1, e2, IntWalk.i64_in _ (by omega), Int.toNat_natCast]
theorem needsM_ok {n : ByteArray} (hn : n.size = 32) {j : Nat} (h : j ≤ 255) : ∀ p ∈ needsM n (j : Int), p := by
  intro p hp
  have e1 : (j : Int).tdiv 8 = ((j / 8 : Nat) : Int) := by rw [Int.tdiv_eq_ediv_of_nonneg (by omega)]; omega
  have e2 : (j : Int).tmod 8 = ((j % 8 : Nat) : Int) := by rw [Int.tmod_eq_emod_of_nonneg (by omega)]; omega
  have e3 : IntKind.i64.wrap ((j / 8 : Nat) : Int) = ((j / 8 : Nat) : Int) := IntWalk.i64_in _ (by omega)
  unfold needsM at hp
  rw [e1, e2, e3, hn] at hp
  simp only [List.mem_cons, List.not_mem_nil, or_false] at hp
  rcases hp with rfl | rfl | rfl <;> omega
def endM (n : ByteArray) (p k : List Int) : Tree := .leaf (.exit 0) (TM (-1) n p k zero20 (mulP k p n 256))
theorem loopM {n : ByteArray} (hn : n.size = 32) {p k : List Int} (hp : toLen 20 p = p) (hk : toLen 5 k = k) : LpOk Try.prog (loopAt (bodyOf Try.f60) 6) (fun st => .need (shM st = TM 255 n p k zero20 zero20) (endM n p k)) := by
  refine loop_tpl (P := Try.prog) (cts := [ctAddKP]) (lps := []) (fz := []) (fuel := 0) (sh := shM) (shx := shM) mix (allOk ⟨ctAddKP_ok, trivial⟩) (.inl rfl) (fun _ _ f hf => by cases hf)
    hwM hwM (fun (j : Nat) => TM (255 - (j : Int)) n p k zero20 (mulP k p n j)) (fun j => j ≤ 256) (fun (j : Nat) => 256 - j) (fun _ => endM n p k) ?_ (a0 := 0) (Nat.zero_le _)
  intro j hj K hK
  rw [roundM]
  refine ⟨fun hb => ?_, fun hb => ?_⟩
  · have hlt : j ≤ 255 := by
      have := of_decide_eq_true hb
      omega
    have ei : 255 - (j : Int) = ((255 - j : Nat) : Int) := by omega
    rw [ei, bitM_eq _ (Nat.sub_le _ _), Bool.cond_self, Bool.cond_self, keepL_id _ hp, keepL_id _ hk, keepL_id (L := zero20) _ rfl]
    refine needs_wp2 (needsM_ok hn (Nat.sub_le _ _)) ⟨j + 1, ?_, (show j + 1 ≤ 256 by omega), ?_, hK⟩
    · have e1 : IntKind.i64.wrap (((255 - j : Nat) : Int) - 1) = 255 - ((j + 1 : Nat) : Int) := by
        rw [IntWalk.i64_in _ (by omega)]
        omega
      rw [e1]
      rfl
    · show 256 - (j + 1) < 256 - j
      omega
  · have hge : j = 256 := by
      have := of_decide_eq_false hb
      omega
    subst hge
    exact hK
theorem only6 : ((loopsOf (bodyOf Try.f60)).filter fun b => codeKey b == 6) = [loopAt (bodyOf Try.f60) 6] := by kernel_rfl
def lpsM (n : ByteArray) (p : List Int) : List (Nat × (St → Tree)) := [(6, fun st => .need (shM st = TM 255 n p kP zero20 zero20) (endM n p kP))]
def ctMulPt : Ct := shCt 60 [.nums .u64 20, .strn 32] fun ds => ([], .tup [.agg (cellsL .u64 20 (mulP kP (toLen 20 (dL ds 0)) (dS ds 1) 256)), .one (.int .i64 0)])
theorem ctMulPt_ok : CtOk Try.prog ctMulPt :=
  runCtL_ok (cts := [ctAddKP, ctFactorP, ctSmallF, ctMulF]) (fz := []) (fuel := 10) mix (allOk ⟨ctAddKP_ok, ctFactorP_ok, ctSmallF_ok, ctMulF_ok, trivial⟩) Try.func60 (c := bodyOf Try.f60) (by kernel_rfl) (by kernel_rfl) (fun _ => by simp [TV.free, SV.free, RC.free, cellsL_free]) fun ds h _ => match ds, h with
    | [.L p, .S n], h => by
      refine ⟨lpsM n (toLen 20 p), lpsOk (c := bodyOf Try.f60) (lps := lpsM n (toLen 20 p)) ⟨fun body hb hk => ?_, trivial⟩, _, viewArgs_is h, ?_⟩
      · rw [loopAt_is only6 hb hk]
        exact loopM h.2.1 (toLen_toLen 20 p) (toLen_toLen 5 _)
      · have hr : runC Try.prog [ctAddKP, ctFactorP, ctSmallF, ctMulF] (lpsM n (toLen 20 p)) [] 10 Try.f60 (bodyOf Try.f60) (viewArgs [.nums .u64 20, .strn 32] [.L p, .S n] h) =
          .need (TM 255 n (toLen 20 p) kP zero20 zero20 = TM 255 n (toLen 20 p) kP zero20 zero20) (.leaf (.tup [.agg (cellsL .u64 20 (mulP kP (toLen 20 p) n 256)), .one (.int .i64 0)])) := by kernel_rfl
        rw [hr]
        exact ⟨rfl, rfl⟩
end Go.Proofs.Ytkkekjkfafnahaa.Fd
