/- The walk of the package sha, words of 64 bits: a word turned, a block's words, a block pressed in. -/
import Derived.Test.YtihmhnfjdkkbgaaSak
noncomputable section
namespace Go.Proofs.Ytihmhnfjdkkbgaa.Sh64
open Go Go.RowKit RX Sh
set_option linter.unusedSimpArgs false
set_option maxRecDepth 1000000
abbrev W : IntKind := .u64
def turn (v : Int) (n : Nat) : Int := orI W (shrI W v n) (shlI W v (64 - n))
def mixW (v : Int) (a b c : Nat) : Int := xorI W (xorI W (turn v a) (turn v b)) (shrI W v c)
def whirl (v : Int) (a b c : Nat) : Int := xorI W (xorI W (turn v a) (turn v b)) (turn v c)
def obj0 : List CV := [.lit .i64 64]
def ctTurn (n : Nat) : Ct := shCt 107 [.obj obj0, .num W, .con .i64 n] fun ds => ([], num1 W (turn (dI ds 1) n))
theorem ctTurn1_ok : CtOk Try.prog (ctTurn 1) :=
  oneCt_ok (cts := []) (fz := []) (fuel := 10) mix (by simp) Try.func107 (by kernel_rfl) (by kernel_rfl) (fun _ => rfl) fun ds h _ => match ds, h with
    | [.O _, .I _, .I _], h => ⟨_, viewArgs_is h, [], by kernel_rfl, by simp⟩
theorem ctTurn8_ok : CtOk Try.prog (ctTurn 8) :=
  oneCt_ok (cts := []) (fz := []) (fuel := 10) mix (by simp) Try.func107 (by kernel_rfl) (by kernel_rfl) (fun _ => rfl) fun ds h _ => match ds, h with
    | [.O _, .I _, .I _], h => ⟨_, viewArgs_is h, [], by kernel_rfl, by simp⟩
theorem ctTurn14_ok : CtOk Try.prog (ctTurn 14) :=
  oneCt_ok (cts := []) (fz := []) (fuel := 10) mix (by simp) Try.func107 (by kernel_rfl) (by kernel_rfl) (fun _ => rfl) fun ds h _ => match ds, h with
    | [.O _, .I _, .I _], h => ⟨_, viewArgs_is h, [], by kernel_rfl, by simp⟩
theorem ctTurn18_ok : CtOk Try.prog (ctTurn 18) :=
  oneCt_ok (cts := []) (fz := []) (fuel := 10) mix (by simp) Try.func107 (by kernel_rfl) (by kernel_rfl) (fun _ => rfl) fun ds h _ => match ds, h with
    | [.O _, .I _, .I _], h => ⟨_, viewArgs_is h, [], by kernel_rfl, by simp⟩
theorem ctTurn19_ok : CtOk Try.prog (ctTurn 19) :=
  oneCt_ok (cts := []) (fz := []) (fuel := 10) mix (by simp) Try.func107 (by kernel_rfl) (by kernel_rfl) (fun _ => rfl) fun ds h _ => match ds, h with
    | [.O _, .I _, .I _], h => ⟨_, viewArgs_is h, [], by kernel_rfl, by simp⟩
theorem ctTurn28_ok : CtOk Try.prog (ctTurn 28) :=
  oneCt_ok (cts := []) (fz := []) (fuel := 10) mix (by simp) Try.func107 (by kernel_rfl) (by kernel_rfl) (fun _ => rfl) fun ds h _ => match ds, h with
    | [.O _, .I _, .I _], h => ⟨_, viewArgs_is h, [], by kernel_rfl, by simp⟩
theorem ctTurn34_ok : CtOk Try.prog (ctTurn 34) :=
  oneCt_ok (cts := []) (fz := []) (fuel := 10) mix (by simp) Try.func107 (by kernel_rfl) (by kernel_rfl) (fun _ => rfl) fun ds h _ => match ds, h with
    | [.O _, .I _, .I _], h => ⟨_, viewArgs_is h, [], by kernel_rfl, by simp⟩
theorem ctTurn39_ok : CtOk Try.prog (ctTurn 39) :=
  oneCt_ok (cts := []) (fz := []) (fuel := 10) mix (by simp) Try.func107 (by kernel_rfl) (by kernel_rfl) (fun _ => rfl) fun ds h _ => match ds, h with
    | [.O _, .I _, .I _], h => ⟨_, viewArgs_is h, [], by kernel_rfl, by simp⟩
theorem ctTurn41_ok : CtOk Try.prog (ctTurn 41) :=
  oneCt_ok (cts := []) (fz := []) (fuel := 10) mix (by simp) Try.func107 (by kernel_rfl) (by kernel_rfl) (fun _ => rfl) fun ds h _ => match ds, h with
    | [.O _, .I _, .I _], h => ⟨_, viewArgs_is h, [], by kernel_rfl, by simp⟩
theorem ctTurn61_ok : CtOk Try.prog (ctTurn 61) :=
  oneCt_ok (cts := []) (fz := []) (fuel := 10) mix (by simp) Try.func107 (by kernel_rfl) (by kernel_rfl) (fun _ => rfl) fun ds h _ => match ds, h with
    | [.O _, .I _, .I _], h => ⟨_, viewArgs_is h, [], by kernel_rfl, by simp⟩
def ctTurns : Ct := orCt (orCt (orCt (orCt (orCt (orCt (orCt (orCt (orCt (ctTurn 1) (ctTurn 8)) (ctTurn 14)) (ctTurn 18)) (ctTurn 19)) (ctTurn 28)) (ctTurn 34)) (ctTurn 39)) (ctTurn 41)) (ctTurn 61)
theorem ctTurns_ok : CtOk Try.prog ctTurns := orCt_ok2 107 (orCt_ok2 107 (orCt_ok2 107 (orCt_ok2 107 (orCt_ok2 107 (orCt_ok2 107 (orCt_ok2 107 (orCt_ok2 107 (orCt_ok2 107 (ctTurn1_ok) ctTurn8_ok (rfl) rfl) ctTurn14_ok (orCt_f (rfl)) rfl) ctTurn18_ok (orCt_f (orCt_f (rfl))) rfl) ctTurn19_ok (orCt_f (orCt_f (orCt_f (rfl)))) rfl) ctTurn28_ok (orCt_f (orCt_f (orCt_f (orCt_f (rfl))))) rfl) ctTurn34_ok (orCt_f (orCt_f (orCt_f (orCt_f (orCt_f (rfl)))))) rfl) ctTurn39_ok (orCt_f (orCt_f (orCt_f (orCt_f (orCt_f (orCt_f (rfl))))))) rfl) ctTurn41_ok (orCt_f (orCt_f (orCt_f (orCt_f (orCt_f (orCt_f (orCt_f (rfl)))))))) rfl) ctTurn61_ok (orCt_f (orCt_f (orCt_f (orCt_f (orCt_f (orCt_f (orCt_f (orCt_f (rfl))))))))) rfl
def ctMix0 : Ct := shCt 106 [.obj obj0, .num W, .conA .i64 [1, 8, 7]] fun ds => ([], num1 W (mixW (dI ds 1) 1 8 7))
theorem ctMix0_ok : CtOk Try.prog ctMix0 :=
  oneCt_ok (cts := [ctTurns]) (fz := []) (fuel := 10) mix (allOk ⟨ctTurns_ok, trivial⟩) Try.func106 (by kernel_rfl) (by kernel_rfl) (fun _ => rfl) fun ds h _ => match ds, h with
    | [.O _, .I _, .L _], h => ⟨_, viewArgs_is h, [], by kernel_rfl, by simp⟩
def ctMix1 : Ct := shCt 106 [.obj obj0, .num W, .conA .i64 [19, 61, 6]] fun ds => ([], num1 W (mixW (dI ds 1) 19 61 6))
theorem ctMix1_ok : CtOk Try.prog ctMix1 :=
  oneCt_ok (cts := [ctTurns]) (fz := []) (fuel := 10) mix (allOk ⟨ctTurns_ok, trivial⟩) Try.func106 (by kernel_rfl) (by kernel_rfl) (fun _ => rfl) fun ds h _ => match ds, h with
    | [.O _, .I _, .L _], h => ⟨_, viewArgs_is h, [], by kernel_rfl, by simp⟩
def ctUp : Ct := shCt 98 [.obj obj0, .num W, .conA .i64 [14, 18, 41]] fun ds => ([], num1 W (whirl (dI ds 1) 14 18 41))
theorem ctUp_ok : CtOk Try.prog ctUp :=
  oneCt_ok (cts := [ctTurns]) (fz := []) (fuel := 10) mix (allOk ⟨ctTurns_ok, trivial⟩) Try.func98 (by kernel_rfl) (by kernel_rfl) (fun _ => rfl) fun ds h _ => match ds, h with
    | [.O _, .I _, .L _], h => ⟨_, viewArgs_is h, [], by kernel_rfl, by simp⟩
def ctDown : Ct := shCt 98 [.obj obj0, .num W, .conA .i64 [28, 34, 39]] fun ds => ([], num1 W (whirl (dI ds 1) 28 34 39))
theorem ctDown_ok : CtOk Try.prog ctDown :=
  oneCt_ok (cts := [ctTurns]) (fz := []) (fuel := 10) mix (allOk ⟨ctTurns_ok, trivial⟩) Try.func98 (by kernel_rfl) (by kernel_rfl) (fun _ => rfl) fun ds h _ => match ds, h with
    | [.O _, .I _, .L _], h => ⟨_, viewArgs_is h, [], by kernel_rfl, by simp⟩
def ctMix : Ct := orCt (ctMix0) (ctMix1)
theorem ctMix_ok : CtOk Try.prog ctMix := orCt_ok2 106 (ctMix0_ok) ctMix1_ok (rfl) rfl
def ctWhirl : Ct := orCt (ctUp) (ctDown)
theorem ctWhirl_ok : CtOk Try.prog ctWhirl := orCt_ok2 98 (ctUp_ok) ctDown_ok (rfl) rfl
/-- The words of a block, the last one first, from what the first sixteen are. -/
def wR (wd : Nat → Int) : Nat → List Int
  | 0 => []
  | t + 1 => (bif Nat.blt t 16 then wd t else W.wrap (W.wrap (W.wrap ((wR wd t).getD 15 0 + (wR wd t).getD 6 0) + mixW ((wR wd t).getD 14 0) 1 8 7) + mixW ((wR wd t).getD 1 0) 19 61 6)) :: wR wd t
def wT (wd : Nat → Int) (t : Nat) : Int := (wR wd (t + 1)).getD 0 0
def wordB (s : ByteArray) (t : Nat) : Nat → Int
  | 0 => 0
  | i + 1 => orI W (shlI W (wordB s t i) 8) (W.wrap (sbyte s ((8 * t + i : Nat) : Int)))
def wdP (s : ByteArray) (t : Nat) : Int := wordB s t 8
def wordsP (s : ByteArray) : List Int := (List.range 80).map fun t => wT (wdP s) t
def obj8 : List CV := [.lit .i64 64, .lit .i64 80, .lit .i64 1, .lit .i64 8, .lit .i64 7, .lit .i64 19, .lit .i64 61, .lit .i64 6]
def ctWords : Ct := ownCt 97 [.obj obj8, .strn 128] W 80 63 fun ds => wordsP (dS ds 1)
set_option maxRecDepth 10000000 in
theorem ctWords_ok : CtOk Try.prog ctWords :=
  ownCt_ok (cts := [ctMix]) (fz := []) (fuel := 82) mix (allOk ⟨ctMix_ok, trivial⟩) Try.func97 (by kernel_rfl) (by kernel_rfl) fun ds h => match ds, h with
    | [.O _, .S _], h => ⟨_, viewArgs_is h, by kernel_rfl⟩

def kO (t : Nat) : Int := kC.getD t 0
def rnd (k w : Int) (v : List Int) : List Int :=
  let u := W.wrap (W.wrap (W.wrap (W.wrap (v.getD 7 0 + whirl (v.getD 4 0) 14 18 41) + xorI W (andI W (v.getD 4 0) (v.getD 5 0)) (andI W (xorI W W.max (v.getD 4 0)) (v.getD 6 0))) + k) + w)
  let o := W.wrap (whirl (v.getD 0 0) 28 34 39 + xorI W (xorI W (andI W (v.getD 0 0) (v.getD 1 0)) (andI W (v.getD 0 0) (v.getD 2 0))) (andI W (v.getD 1 0) (v.getD 2 0)))
  [W.wrap (u + o), v.getD 0 0, v.getD 1 0, v.getD 2 0, W.wrap (v.getD 3 0 + u), v.getD 4 0, v.getD 5 0, v.getD 6 0]
def rounds (wd : Nat → Int) (h : List Int) : Nat → List Int
  | 0 => h
  | t + 1 => rnd (kO t) (wT wd t) (rounds wd h t)
def pressW (wd : Nat → Int) (h : List Int) : List Int := (List.range 8).map fun i => W.wrap (h.getD i 0 + (rounds wd h 80).getD i 0)

def kObj : List CV := [.ptr (kC.map (CV.lit .u64)) 0]
def startC : List Int := sC
def kindO : List CV := [.lit .i64 64, .lit .i64 80, .lit .i64 1, .lit .i64 8, .lit .i64 7, .lit .i64 19, .lit .i64 61, .lit .i64 6, .lit .i64 14, .lit .i64 18, .lit .i64 41, .lit .i64 28, .lit .i64 34, .lit .i64 39, .clo 88 [.ptr kObj 0]] ++ startC.map (CV.lit W)
def ctKOn : Ct := shCt 88 [.num .i64, .obj kObj] fun ds => ([0 ≤ dI ds 0, dI ds 0 < 80], num1 W (kO (dI ds 0).toNat))
set_option maxRecDepth 1000000 in
theorem ctKOn_ok : CtOk Try.prog ctKOn :=
  oneCt_ok (cts := []) (fz := []) (fuel := 10) mix (by simp) Try.func88 (by kernel_rfl) (by kernel_rfl) (fun _ => rfl) fun ds h hn => match ds, h, hn with
    | [.I i, .O _], h, hn => ⟨_, viewArgs_is h, [0 ≤ i, i < ((80 : Nat) : Int)], by kernel_rfl, hn⟩
def ctKO : Ct := gdCt 88 [.num .i64, .obj kObj] (fun ds => decide (0 ≤ dI ds 0 ∧ dI ds 0 < 80)) fun ds => num1 W (kO (dI ds 0).toNat)
theorem ctKO_ok : CtOk Try.prog ctKO := gdCt_ok (out := fun ds => ([0 ≤ dI ds 0, dI ds 0 < 80], num1 W (kO (dI ds 0).toNat))) ctKOn_ok fun ds h => by
  have := of_decide_eq_true h
  intro p hp
  rcases List.mem_cons.1 hp with rfl | hp
  · exact this.1
  · rw [List.mem_singleton.1 hp]; exact this.2
def ctKind : Ct := shCt 67 [] fun _ => ([], .sv (.one (.co kindO 0)))
set_option maxRecDepth 1000000 in
theorem ctKind_ok : CtOk Try.prog ctKind :=
  oneCt_ok (cts := [ctConst, ctStarts]) (fz := []) (fuel := 10) mix (allOk ⟨ctConst_ok, ctStarts_ok, trivial⟩) Try.func67 (by kernel_rfl) (by kernel_rfl) (fun _ => rfl) fun ds h _ => match ds, h with
    | [], h => ⟨_, viewArgs_is h, [], by kernel_rfl, by simp⟩
def ctBlock : Ct := shCt 86 [.obj obj0] fun _ => ([], .sv (.one (.lit .i64 128)))
theorem ctBlock_ok : CtOk Try.prog ctBlock :=
  oneCt_ok (cts := []) (fz := []) (fuel := 10) mix (by simp) Try.func86 (by kernel_rfl) (by kernel_rfl) (fun _ => rfl) fun ds h _ => match ds, h with
    | [.O _], h => ⟨_, viewArgs_is h, [], by kernel_rfl, by simp⟩
def ctPress : Ct := shCt 87 [.obj kindO, .nums W 8, .str] fun ds => ([(dS ds 2).size = 128], numsT W 8 (pressW (wdP (dS ds 2)) (dL ds 1)))
set_option maxRecDepth 10000000 in
set_option maxHeartbeats 40000000 in
theorem ctPress_ok : CtOk Try.prog ctPress :=
  oneCt_ok (cts := [ctWords, ctWhirl, ctKO]) (fz := []) (fuel := 82) mix (allOk ⟨ctWords_ok, ctWhirl_ok, ctKO_ok, trivial⟩) Try.func87 (by kernel_rfl) (by kernel_rfl) (fun _ => rfl) fun ds h hn => match ds, h, hn with
    | [.O r, .L l, .S s], h, hn => ⟨viewArgs [.obj kindO, .nums W 8, .strn 128] [.O r, .L l, .S s] ⟨h.1, h.2.1, hn _ (List.mem_singleton.2 rfl), trivial⟩, fun β vs r => viewArgs_is (shs := [.obj kindO, .nums W 8, .strn 128]) _ β vs r, [], by kernel_rfl, by simp⟩
end Go.Proofs.Ytihmhnfjdkkbgaa.Sh64
