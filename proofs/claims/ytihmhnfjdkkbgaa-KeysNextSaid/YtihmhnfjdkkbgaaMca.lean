/- The walk of the package mac and of cressetref02: Mac. -/
import Derived.Test.YtihmhnfjdkkbgaaSva
noncomputable section
namespace Go.Proofs.Ytihmhnfjdkkbgaa
open Go Go.RowKit RX Sh
set_option linter.unusedSimpArgs false
set_option maxRecDepth 10000000
def padB (k : ByteArray) (c : Int) (j : Nat) : Int := xorI .u8 (bif decide (j < k.size) then sbyte k (j : Nat) else 0) c
def padL (k : ByteArray) (c : Int) (n : Nat) : List Int := (List.range n).map fun j => padB k c j
def padS (n : Nat) (k : ByteArray) (c : Int) : ByteArray := strOfNums (padL k c n)
theorem padS_size (n : Nat) (k : ByteArray) (c : Int) : (padS n k c).size = n := by unfold padS padL; rw [strOfNums_size]; simp
def key32 (k : ByteArray) : ByteArray := bif decide ((k.size : Int) > 64) then Sh32.dgS k else k
def key64 (k : ByteArray) : ByteArray := bif decide ((k.size : Int) > 128) then Sh64.dgS k else k
def mac32 (k d : ByteArray) : ByteArray := Sh32.dgS (padS 64 (key32 k) 92 ++ Sh32.dgS (padS 64 (key32 k) 54 ++ d))
def mac64 (k d : ByteArray) : ByteArray := Sh64.dgS (padS 128 (key64 k) 92 ++ Sh64.dgS (padS 128 (key64 k) 54 ++ d))
theorem mac32_size (k d : ByteArray) : (mac32 k d).size = 32 := Sh32.dgS_size _
theorem mac64_size (k d : ByteArray) : (mac64 k d).size = 64 := Sh64.dgS_size _
def ctDg : Ct := inlCt Try.prog [] 10 69 Try.f69
theorem ctDg_ok : CtOk Try.prog ctDg := inlCt_ok mix (by simp) Try.func69 (by kernel_rfl) (by kernel_rfl)
def dm (n : Int) (k d : ByteArray) : ByteArray := bif decide ((k.size : Int) > n) then d else d
theorem dm_eq (n : Int) (k d : ByteArray) : dm n k d = d := Bool.cond_self ..
def ctMac32 : Ct := shCt 34 [.con .i64 32, .str, .str] fun ds => ([(dS ds 1).size ≤ 1099511627776, (dS ds 2).size ≤ 549755813888], .tup [.one (.strn (mac32 (dS ds 1) (dS ds 2)) 32 (mac32_size _ _)), .one (.lit .i64 0)])
set_option maxHeartbeats 4000000 in
theorem ctMac32_ok : CtOk Try.prog ctMac32 :=
  runCtL_ok (cts := [ctDg, Sh32.ctSum, Sh64.ctSum]) (fz := []) (fuel := 130) mix (allOk ⟨ctDg_ok, Sh32.ctSum_ok, Sh64.ctSum_ok, trivial⟩) Try.func34 (c := bodyOf Try.f34) (by kernel_rfl) (by kernel_rfl) (fun _ => rfl) fun ds h hn => match ds, h, hn with
    | [.I _, .S k, .S d], h, hn => by
      have hk : k.size ≤ 1099511627776 := hn _ (List.mem_cons_self ..)
      have hd : d.size ≤ 549755813888 := hn _ (by simp [dS])
      refine ⟨[], (fun _ _ _ hg => by cases hg), _, viewArgs_is h, ?_⟩
      have hr : runC Try.prog [ctDg, Sh32.ctSum, Sh64.ctSum] [] [] 130 Try.f34 (bodyOf Try.f34) (viewArgs [.con .i64 32, .str, .str] [.I _, .S k, .S d] h) =
          .need (decide ((k.size : Int) > 64) = true → k.size ≤ 1099511627776) (.need ((padS 64 (key32 k) 54).size + (dm 64 k d).size ≤ 9223372036854775807) (.need ((padS 64 (key32 k) 54 ++ dm 64 k d).size ≤ 1099511627776) (.need ((padS 64 (key32 k) 92 ++ Sh32.dgS (padS 64 (key32 k) 54 ++ dm 64 k d)).size ≤ 1099511627776) (.leaf (.tup [.one (.str (mac32 k (dm 64 k d))), .one (.int .i64 0)]))))) := by kernel_rfl
      rw [hr, dm_eq]
      refine ⟨fun _ => hk, ?_, ?_, ?_, rfl⟩
      · rw [padS_size]; omega
      · rw [ByteArray.size_append, padS_size]; omega
      · rw [ByteArray.size_append, padS_size, Sh32.dgS_size]; omega
def ctMac64 : Ct := shCt 34 [.con .i64 64, .str, .str] fun ds => ([(dS ds 1).size ≤ 1099511627776, (dS ds 2).size ≤ 549755813888], .tup [.one (.strn (mac64 (dS ds 1) (dS ds 2)) 64 (mac64_size _ _)), .one (.lit .i64 0)])
set_option maxHeartbeats 4000000 in
theorem ctMac64_ok : CtOk Try.prog ctMac64 :=
  runCtL_ok (cts := [ctDg, Sh32.ctSum, Sh64.ctSum]) (fz := []) (fuel := 130) mix (allOk ⟨ctDg_ok, Sh32.ctSum_ok, Sh64.ctSum_ok, trivial⟩) Try.func34 (c := bodyOf Try.f34) (by kernel_rfl) (by kernel_rfl) (fun _ => rfl) fun ds h hn => match ds, h, hn with
    | [.I _, .S k, .S d], h, hn => by
      have hk : k.size ≤ 1099511627776 := hn _ (List.mem_cons_self ..)
      have hd : d.size ≤ 549755813888 := hn _ (by simp [dS])
      refine ⟨[], (fun _ _ _ hg => by cases hg), _, viewArgs_is h, ?_⟩
      have hr : runC Try.prog [ctDg, Sh32.ctSum, Sh64.ctSum] [] [] 130 Try.f34 (bodyOf Try.f34) (viewArgs [.con .i64 64, .str, .str] [.I _, .S k, .S d] h) =
          .need (decide ((k.size : Int) > 128) = true → k.size ≤ 1099511627776) (.need ((padS 128 (key64 k) 54).size + (dm 128 k d).size ≤ 9223372036854775807) (.need ((padS 128 (key64 k) 54 ++ dm 128 k d).size ≤ 1099511627776) (.need ((padS 128 (key64 k) 92 ++ Sh64.dgS (padS 128 (key64 k) 54 ++ dm 128 k d)).size ≤ 1099511627776) (.leaf (.tup [.one (.str (mac64 k (dm 128 k d))), .one (.int .i64 0)]))))) := by kernel_rfl
      rw [hr, dm_eq]
      refine ⟨fun _ => hk, ?_, ?_, ?_, rfl⟩
      · rw [padS_size]; omega
      · rw [ByteArray.size_append, padS_size]; omega
      · rw [ByteArray.size_append, padS_size, Sh64.dgS_size]; omega
def ctMacNo : Ct := shCt 34 [.num .i64, .str, .str] fun ds => ([dI ds 0 ≠ 32 ∧ dI ds 0 ≠ 64], .tup [.one (.str .empty), .one (.lit .i64 1)])
theorem noMac_wp {n : Int} {X Y : TT} (h : n ≠ 32 ∧ n ≠ 64) : TT.wp (.br (n != 32) (.br (n != 64) (.leaf (.tup [.one (.str .empty), .one (.int .i64 1)])) X) Y) (fun x => x = .tup [.one (.str .empty), .one (.int .i64 1)]) :=
  TT.br_t (by simpa using h.1) (TT.br_t (by simpa using h.2) rfl)
theorem noMacR_wp {n : Int} {X Y : TT} (h : n ≠ 32 ∧ n ≠ 64) : TT.wp (.br (n == 32) X (.br (n == 64) Y (.leaf (.tup [.one (.str .empty), .one (.int .i64 1)])))) (fun x => x = .tup [.one (.str .empty), .one (.int .i64 1)]) :=
  TT.br_f (by simpa using h.1) (TT.br_f (by simpa using h.2) rfl)
/-! ### The reference's -/
def TPd (k : ByteArray) (n c i : Int) (L : List Int) : St := ⟨tmL 30 [(0, .sv (.one (.str k))), (1, .sv (.one (.int .i64 n))), (2, .sv (.one (.int .u8 c))), (7, .sv (.one (.sq 0 L.length))), (8, .sv (.one (.int .i64 i)))], [.seq 5 .u8 L]⟩
def shPd (st : St) : St := cut 1 (nameT 7 0 5 .u8 (grow 1 (mask [0, 1, 2, 7, 8] [0, 1, 2, 8] st)))
theorem hwPd : Weak NoS shPd := Weak.comp (f := fun st => nameT 7 0 5 .u8 (grow 1 (mask [0, 1, 2, 7, 8] [0, 1, 2, 8] st))) (g := cut 1) (Weak.comp (f := fun st => grow 1 (mask [0, 1, 2, 7, 8] [0, 1, 2, 8] st)) (g := nameT 7 0 5 .u8) (Weak.comp (f := mask [0, 1, 2, 7, 8] [0, 1, 2, 8]) (g := grow 1) (mask_weak NoS [0, 1, 2, 7, 8] [0, 1, 2, 8]) (grow_weak NoS 1)) (nameT_weak (t := 7) (tgt := 0) (e := 5) (k := .u8) fun S h => h 0)) (cut_weak fun S h m k hm => by have := h m; rw [this] at hm; cases hm)
def inK (k : ByteArray) (i : Int) : Bool := decide (i < k.size)
def nxt (k : ByteArray) (c i : Int) (L : List Int) : List Int := (bif inK k i then L else L) ++ [xorI .u8 (bif inK k i then sbyte k i else 0) (bif inK k i then c else c)]
theorem roundPd (k : ByteArray) (n c i : Int) (L : List Int) : (exec Try.prog [] [] [] 0 (loopAt (bodyOf Try.f70) 3) (TPd k n c i L)).shape shPd shPd =
    .br (decide (i < n)) (needs [inK k i = true → 0 ≤ i, inK k i = true → i < k.size, (nxt k c i L).length ≤ 8796093022208, (bif inK k i then L.length else L.length) = (bif inK k i then L else L).length]
      (.leaf .normal (TPd (bif inK k i then k else k) (bif inK k i then n else n) (bif inK k i then c else c) (IntKind.i64.wrap ((bif inK k i then i else i) + 1)) (nxt k c i L)))) (.leaf (.exit 0) (TPd k n c i L)) := by kernel_rfl
theorem padL_succ (k : ByteArray) (c : Int) (j : Nat) : padL k c (j + 1) = nxt k c j (padL k c j) := by
  unfold padL nxt inK
  rw [List.range_succ, List.map_append, Bool.cond_self, Bool.cond_self]
  simp only [List.map_cons, List.map_nil, padB, Int.ofNat_lt]
theorem padL_length (k : ByteArray) (c : Int) (n : Nat) : (padL k c n).length = n := by simp [padL]
theorem loopPd (k : ByteArray) (n : Nat) (hn : n ≤ 1000) (c : Int) : LpOk Try.prog (loopAt (bodyOf Try.f70) 3) (fun st => .need (shPd st = TPd k n c 0 []) (.leaf (.exit 0) (TPd k n c n (padL k c n)))) := by
  refine loop_tpl (P := Try.prog) (cts := []) (lps := []) (fz := []) (fuel := 0) (sh := shPd) (shx := shPd) mix (by simp) (.inl rfl) (fun _ _ f hf => by cases hf)
    hwPd hwPd (fun (j : Nat) => TPd k n c j (padL k c j)) (fun j => j ≤ n) (fun (j : Nat) => n - j) (fun _ => .leaf (.exit 0) (TPd k n c n (padL k c n))) ?_ (a0 := 0) (Nat.zero_le _)
  intro j hj K hK
  rw [roundPd]
  refine ⟨fun hb => ?_, fun hb => ?_⟩
  · have hlt : j < n := by
      have := of_decide_eq_true hb
      omega
    have e1 : IntKind.i64.wrap ((bif inK k j then (j : Int) else (j : Int)) + 1) = ((j + 1 : Nat) : Int) := by
      rw [Bool.cond_self, IntWalk.i64_in _ (by omega)]
      omega
    rw [e1, ← padL_succ]
    simp only [Bool.cond_self]
    refine ⟨fun _ => by omega, fun h => of_decide_eq_true h, ?_, trivial, j + 1, rfl, hlt, ?_, hK⟩
    · rw [padL_length]; omega
    · show n - (j + 1) < n - j
      omega
  · have hge : j = n := by
      have := of_decide_eq_false hb
      omega
    subst hge
    exact hK
theorem onlyPd : ((loopsOf (bodyOf Try.f70)).filter fun b => codeKey b == 3) = [loopAt (bodyOf Try.f70) 3] := by kernel_rfl
def lpsPd (k : ByteArray) (n : Nat) (c : Int) : List (Nat × (St → Tree)) := [(3, fun st => .need (shPd st = TPd k n c 0 []) (.leaf (.exit 0) (TPd k n c n (padL k c n))))]
def ctPadded (n : Nat) : Ct := shCt 70 [.str, .con .i64 n, .num .u8] fun ds => ([], .sv (.one (.strn (padS n (dS ds 0) (dI ds 2)) n (padS_size _ _ _))))
theorem ctPadded64_ok : CtOk Try.prog (ctPadded 64) :=
  runCtL_ok (cts := []) (fz := []) (fuel := 10) mix (by simp) Try.func70 (c := bodyOf Try.f70) (by kernel_rfl) (by kernel_rfl) (fun _ => rfl) fun ds h _ => match ds, h with
    | [.S k, .I _, .I c], h => by
      refine ⟨lpsPd k 64 c, lpsOk (c := bodyOf Try.f70) (lps := lpsPd k 64 c) ⟨fun body hb hk => ?_, trivial⟩, _, viewArgs_is h, ?_⟩
      · rw [loopAt_is onlyPd hb hk]
        exact loopPd k 64 (by decide) c
      · have hr : runC Try.prog [] (lpsPd k 64 c) [] 10 Try.f70 (bodyOf Try.f70) (viewArgs [.str, .con .i64 ((64 : Nat) : Int), .num .u8] [.S k, .I _, .I c] h) = .need (TPd k 64 c 0 [] = TPd k 64 c 0 []) (.need ((padL k c 64).length = (padL k c 64).length) (.leaf (str1 (padS 64 k c)))) := by kernel_rfl
        rw [hr]
        exact ⟨rfl, rfl, rfl⟩
theorem ctPadded128_ok : CtOk Try.prog (ctPadded 128) :=
  runCtL_ok (cts := []) (fz := []) (fuel := 10) mix (by simp) Try.func70 (c := bodyOf Try.f70) (by kernel_rfl) (by kernel_rfl) (fun _ => rfl) fun ds h _ => match ds, h with
    | [.S k, .I _, .I c], h => by
      refine ⟨lpsPd k 128 c, lpsOk (c := bodyOf Try.f70) (lps := lpsPd k 128 c) ⟨fun body hb hk => ?_, trivial⟩, _, viewArgs_is h, ?_⟩
      · rw [loopAt_is onlyPd hb hk]
        exact loopPd k 128 (by decide) c
      · have hr : runC Try.prog [] (lpsPd k 128 c) [] 10 Try.f70 (bodyOf Try.f70) (viewArgs [.str, .con .i64 ((128 : Nat) : Int), .num .u8] [.S k, .I _, .I c] h) = .need (TPd k 128 c 0 [] = TPd k 128 c 0 []) (.need ((padL k c 128).length = (padL k c 128).length) (.leaf (str1 (padS 128 k c)))) := by kernel_rfl
        rw [hr]
        exact ⟨rfl, rfl, rfl⟩
def ctPads : Ct := orCt (ctPadded 64) (ctPadded 128)
theorem ctPads_ok : CtOk Try.prog ctPads := orCt_ok2 70 ctPadded64_ok ctPadded128_ok rfl rfl
def keyR32 (k : ByteArray) : ByteArray := bif decide ((k.size : Int) > 64) then Sh32.smS k else k
def macR32 (k d : ByteArray) : ByteArray := Sh32.smS (padS 64 (keyR32 k) 92 ++ Sh32.smS (padS 64 (keyR32 k) 54 ++ d))
theorem macR32_size (k d : ByteArray) : (macR32 k d).size = 32 := Sh32.smS_size _
theorem keyR32_eq {k : ByteArray} (h : k.size ≤ 1099511627776) : keyR32 k = key32 k := by unfold keyR32 key32; rw [Sh32.sm_eq h]
theorem macR32_eq {k d : ByteArray} (h : k.size ≤ 1099511627776) (hd : d.size ≤ 549755813888) : macR32 k d = mac32 k d := by
  have h1 : (padS 64 (key32 k) 54 ++ d).size ≤ 1099511627776 := by rw [ByteArray.size_append, padS_size]; omega
  have h2 : (padS 64 (key32 k) 92 ++ Sh32.dgS (padS 64 (key32 k) 54 ++ d)).size ≤ 1099511627776 := by rw [ByteArray.size_append, padS_size, Sh32.dgS_size]; omega
  unfold macR32 mac32
  rw [keyR32_eq h, Sh32.sm_eq h1, Sh32.sm_eq h2]
def ctMacR32 : Ct := shCt 35 [.con .i64 32, .str, .str] fun ds => ([(dS ds 1).size ≤ 1099511627776, (dS ds 2).size ≤ 549755813888], .tup [.one (.strn (mac32 (dS ds 1) (dS ds 2)) 32 (mac32_size _ _)), .one (.lit .i64 0)])
theorem ctMacR32_ok : CtOk Try.prog ctMacR32 :=
  runCtL_ok (cts := [ctPads, Sh32.ctSumR, Sh64.ctSumR]) (fz := []) (fuel := 10) mix (allOk ⟨ctPads_ok, Sh32.ctSumR_ok, Sh64.ctSumR_ok, trivial⟩) Try.func35 (c := bodyOf Try.f35) (by kernel_rfl) (by kernel_rfl) (fun _ => rfl) fun ds h hn => match ds, h, hn with
    | [.I _, .S k, .S d], h, hn => by
      have hk : k.size ≤ 1099511627776 := hn _ (List.mem_cons_self ..)
      have hd : d.size ≤ 549755813888 := hn _ (by simp [dS])
      refine ⟨[], (fun _ _ _ hg => by cases hg), _, viewArgs_is h, ?_⟩
      have hr : runC Try.prog [ctPads, Sh32.ctSumR, Sh64.ctSumR] [] [] 10 Try.f35 (bodyOf Try.f35) (viewArgs [.con .i64 32, .str, .str] [.I _, .S k, .S d] h) =
          .need (decide ((k.size : Int) > 64) = true → k.size ≤ 1099511627776) (.need ((padS 64 (keyR32 k) 54).size + (dm 64 k d).size ≤ 9223372036854775807) (.need ((padS 64 (keyR32 k) 54 ++ dm 64 k d).size ≤ 1099511627776) (.need ((padS 64 (keyR32 k) 92 ++ Sh32.smS (padS 64 (keyR32 k) 54 ++ dm 64 k d)).size ≤ 1099511627776) (.leaf (.tup [.one (.str (macR32 k (dm 64 k d))), .one (.int .i64 0)]))))) := by kernel_rfl
      rw [hr, dm_eq, macR32_eq hk hd]
      refine ⟨fun _ => hk, ?_, ?_, ?_, rfl⟩
      · rw [padS_size]; omega
      · rw [ByteArray.size_append, padS_size]; omega
      · rw [ByteArray.size_append, padS_size, Sh32.smS_size]; omega
def keyR64 (k : ByteArray) : ByteArray := bif decide ((k.size : Int) > 128) then Sh64.smS k else k
def macR64 (k d : ByteArray) : ByteArray := Sh64.smS (padS 128 (keyR64 k) 92 ++ Sh64.smS (padS 128 (keyR64 k) 54 ++ d))
theorem macR64_size (k d : ByteArray) : (macR64 k d).size = 64 := Sh64.smS_size _
theorem keyR64_eq {k : ByteArray} (h : k.size ≤ 1099511627776) : keyR64 k = key64 k := by unfold keyR64 key64; rw [Sh64.sm_eq h]
theorem macR64_eq {k d : ByteArray} (h : k.size ≤ 1099511627776) (hd : d.size ≤ 549755813888) : macR64 k d = mac64 k d := by
  have h1 : (padS 128 (key64 k) 54 ++ d).size ≤ 1099511627776 := by rw [ByteArray.size_append, padS_size]; omega
  have h2 : (padS 128 (key64 k) 92 ++ Sh64.dgS (padS 128 (key64 k) 54 ++ d)).size ≤ 1099511627776 := by rw [ByteArray.size_append, padS_size, Sh64.dgS_size]; omega
  unfold macR64 mac64
  rw [keyR64_eq h, Sh64.sm_eq h1, Sh64.sm_eq h2]
def ctMacR64 : Ct := shCt 35 [.con .i64 64, .str, .str] fun ds => ([(dS ds 1).size ≤ 1099511627776, (dS ds 2).size ≤ 549755813888], .tup [.one (.strn (mac64 (dS ds 1) (dS ds 2)) 64 (mac64_size _ _)), .one (.lit .i64 0)])
theorem ctMacR64_ok : CtOk Try.prog ctMacR64 :=
  runCtL_ok (cts := [ctPads, Sh32.ctSumR, Sh64.ctSumR]) (fz := []) (fuel := 10) mix (allOk ⟨ctPads_ok, Sh32.ctSumR_ok, Sh64.ctSumR_ok, trivial⟩) Try.func35 (c := bodyOf Try.f35) (by kernel_rfl) (by kernel_rfl) (fun _ => rfl) fun ds h hn => match ds, h, hn with
    | [.I _, .S k, .S d], h, hn => by
      have hk : k.size ≤ 1099511627776 := hn _ (List.mem_cons_self ..)
      have hd : d.size ≤ 549755813888 := hn _ (by simp [dS])
      refine ⟨[], (fun _ _ _ hg => by cases hg), _, viewArgs_is h, ?_⟩
      have hr : runC Try.prog [ctPads, Sh32.ctSumR, Sh64.ctSumR] [] [] 10 Try.f35 (bodyOf Try.f35) (viewArgs [.con .i64 64, .str, .str] [.I _, .S k, .S d] h) =
          .need (decide ((k.size : Int) > 128) = true → k.size ≤ 1099511627776) (.need ((padS 128 (keyR64 k) 54).size + (dm 128 k d).size ≤ 9223372036854775807) (.need ((padS 128 (keyR64 k) 54 ++ dm 128 k d).size ≤ 1099511627776) (.need ((padS 128 (keyR64 k) 92 ++ Sh64.smS (padS 128 (keyR64 k) 54 ++ dm 128 k d)).size ≤ 1099511627776) (.leaf (.tup [.one (.str (macR64 k (dm 128 k d))), .one (.int .i64 0)]))))) := by kernel_rfl
      rw [hr, dm_eq, macR64_eq hk hd]
      refine ⟨fun _ => hk, ?_, ?_, ?_, rfl⟩
      · rw [padS_size]; omega
      · rw [ByteArray.size_append, padS_size]; omega
      · rw [ByteArray.size_append, padS_size, Sh64.smS_size]; omega
end Go.Proofs.Ytihmhnfjdkkbgaa
