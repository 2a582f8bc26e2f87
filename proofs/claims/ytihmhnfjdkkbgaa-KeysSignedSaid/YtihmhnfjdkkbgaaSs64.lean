/- The walk of the package cressetref01: a block's words and rounds of Sum512. -/
import Derived.Test.YtihmhnfjdkkbgaaSr64
noncomputable section
namespace Go.Proofs.Ytihmhnfjdkkbgaa.Sh64
open Go Go.RowKit RX Sh
set_option linter.unusedSimpArgs false
set_option maxRecDepth 1000000
/-! ### The words of a block, one by one -/
def TW (F : List Int) (a : Int) (h : List Int) (t : Int) (L : List Int) : St := ⟨tmL 271 [(3, .sv (.one (.slc 0 0 80 (some 80)))), (4, .sv (.one (.slc 1 0 8 (some 8)))), (5, .sv (.one (.sq 2 F.length))), (6, .sv (.one (.int .i64 a))), (7, .sv (.one (.sq 3 L.length))), (8, .sv (.one (.int .i64 t)))], .blk 63 (cellsL .u64 80 kC) :: ([.blk 63 (cellsL W 8 h), .seq 5 .u8 F, .seq 63 W L])⟩
def shW (st : St) : St := (cut 4) ((keepS [0, 1, 2, 3]) ((nameT 7 3 63 W) ((grow 4) ((mask [3, 4, 5, 6, 7, 8] [6, 8]) st))))
theorem hwW : Weak NoS shW := Weak.comp (f := fun st => (keepS [0, 1, 2, 3]) ((nameT 7 3 63 W) ((grow 4) ((mask [3, 4, 5, 6, 7, 8] [6, 8]) st)))) (g := cut 4) (Weak.comp (f := fun st => (nameT 7 3 63 W) ((grow 4) ((mask [3, 4, 5, 6, 7, 8] [6, 8]) st))) (g := keepS [0, 1, 2, 3]) (Weak.comp (f := fun st => (grow 4) ((mask [3, 4, 5, 6, 7, 8] [6, 8]) st)) (g := nameT 7 3 63 W) (Weak.comp (f := fun st => (mask [3, 4, 5, 6, 7, 8] [6, 8]) st) (g := grow 4) (mask_weak NoS [3, 4, 5, 6, 7, 8] [6, 8]) (grow_weak NoS 4)) (nameT_weak (t := 7) (tgt := 3) (e := 63) (k := W) (fun S h => h _))) (keepS_weak NoS [0, 1, 2, 3])) (cut_weak fun S h m k hm => by have := h m; rw [this] at hm; cases hm)
def pS (a t : Int) (j : Nat) : Int := IntKind.i64.wrap (IntKind.i64.wrap (a + IntKind.i64.wrap (8 * t)) + (j : Nat))
def wordS (F : List Int) (a t : Int) : Nat → Int
  | 0 => 0
  | j + 1 => W.wrap (W.wrap (256 * wordS F a t j) + W.wrap (F.getD (pS a t j).toNat 0))
def wdS (F : List Int) (a t : Int) : Int := wordS F a t 8
def ix (t : Int) (d : Int) : Int := IntKind.i64.wrap (t - d)
def newS (L : List Int) (t : Int) : Int := W.wrap (W.wrap (W.wrap (L.getD (ix t 16).toNat 0 + L.getD (ix t 7).toNat 0) + mixW (L.getD (ix t 15).toNat 0) 1 8 7) + mixW (L.getD (ix t 2).toNat 0) 19 61 6)
def needsB (F : List Int) (a t : Int) : List Prop := (List.range 8).flatMap fun j => [0 ≤ pS a t j, pS a t j < F.length, (pS a t j).toNat < F.length]
def needsI (L : List Int) (t : Int) (ds : List Int) : List Prop := ds.flatMap fun d => [0 ≤ ix t d, ix t d < L.length, (ix t d).toNat < L.length]
def needsL (L : List Int) (x : Int) : List Prop := [(L ++ [x]).length ≤ 8796093022208, L.length = L.length]
theorem roundW (F : List Int) (a : Int) (h : List Int) (t : Int) (L : List Int) : (exec Try.prog [ctRights] [] [500012] 10 (loopAt (bodyOf Try.f29) 9) (TW F a h t L)).shape shW shW =
    .br (decide (t < 80)) (.br (decide (t < 16))
      (needs (needsB F a t ++ needsL L (wdS F a t)) (.leaf .normal (TW F a h (IntKind.i64.wrap (t + 1)) (L ++ [wdS F a t]))))
      (needs (needsI L t [15, 15, 15, 2, 2, 2, 16, 7] ++ needsL L (newS L t)) (.leaf .normal (TW F a h (IntKind.i64.wrap (t + 1)) (L ++ [newS L t]))))) (.leaf (.exit 2) (TW F a h t L)) := by kernel_rfl
/-! ### The rounds of a block, one by one -/
def TV (F : List Int) (a : Int) (h w : List Int) (t : Int) (v : List Int) : St := ⟨tmL 271 [(3, .sv (.one (.slc 0 0 80 (some 80)))), (4, .sv (.one (.slc 1 0 8 (some 8)))), (5, .sv (.one (.sq 2 F.length))), (6, .sv (.one (.int .i64 a))), (7, .sv (.one (.sq 3 w.length))), (13, .sv (.one (.slc 4 0 8 none))), (14, .sv (.one (.int .i64 t)))], .blk 63 (cellsL .u64 80 kC) :: ([.blk 63 (cellsL W 8 h), .seq 5 .u8 F, .seq 63 W w, .blk 63 (cellsL W 8 v)])⟩
def shV (st : St) : St := (cut 5) ((normB 4) ((keepS [0, 1, 2, 3, 4]) ((nameT 13 4 63 W) ((grow 5) ((mask [3, 4, 5, 6, 7, 13, 14] [6, 14]) st)))))
theorem hwV : Weak NoS shV := Weak.comp (f := fun st => (normB 4) ((keepS [0, 1, 2, 3, 4]) ((nameT 13 4 63 W) ((grow 5) ((mask [3, 4, 5, 6, 7, 13, 14] [6, 14]) st))))) (g := cut 5) (Weak.comp (f := fun st => (keepS [0, 1, 2, 3, 4]) ((nameT 13 4 63 W) ((grow 5) ((mask [3, 4, 5, 6, 7, 13, 14] [6, 14]) st)))) (g := normB 4) (Weak.comp (f := fun st => (nameT 13 4 63 W) ((grow 5) ((mask [3, 4, 5, 6, 7, 13, 14] [6, 14]) st))) (g := keepS [0, 1, 2, 3, 4]) (Weak.comp (f := fun st => (grow 5) ((mask [3, 4, 5, 6, 7, 13, 14] [6, 14]) st)) (g := nameT 13 4 63 W) (Weak.comp (f := fun st => (mask [3, 4, 5, 6, 7, 13, 14] [6, 14]) st) (g := grow 5) (mask_weak NoS [3, 4, 5, 6, 7, 13, 14] [6, 14]) (grow_weak NoS 5)) (nameT_weak (t := 13) (tgt := 4) (e := 63) (k := W) (fun S h => h _))) (keepS_weak NoS [0, 1, 2, 3, 4])) (normB_weak NoS 4)) (cut_weak fun S h m k hm => by have := h m; rw [this] at hm; cases hm)
def kS (t : Int) : Int := (toLen 80 kC).getD (0 + t.toNat) 0
def needsV (w : List Int) (t : Int) : List Prop := [0 ≤ t, t < ((80 : Nat) : Int), 0 + t.toNat < (toLen 80 kC).length, 0 ≤ t, t < w.length, t.toNat < w.length]
theorem roundV (F : List Int) (a : Int) (h w : List Int) (t : Int) (v : List Int) : (exec Try.prog [ctRights] [] [] 0 (loopAt (bodyOf Try.f29) 24) (TV F a h w t v)).shape shV shV =
    .br (decide (t < 80)) (needs (needsV w t) (.leaf .normal (TV F a h w (IntKind.i64.wrap (t + 1)) (rnd (kS t) (w.getD t.toNat 0) v)))) (.leaf (.exit 6) (TV F a h w t v)) := by kernel_rfl
end Go.Proofs.Ytihmhnfjdkkbgaa.Sh64
