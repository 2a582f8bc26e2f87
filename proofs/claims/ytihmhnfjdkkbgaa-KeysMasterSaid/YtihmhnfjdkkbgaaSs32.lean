/- The walk of the package cressetref01: a block's words and rounds of Sum256. -/
import Derived.Test.YtihmhnfjdkkbgaaSr32
noncomputable section
namespace Go.Proofs.Ytihmhnfjdkkbgaa.Sh32
open Go Go.RowKit RX Sh
set_option linter.unusedSimpArgs false
set_option maxRecDepth 1000000
/-! ### The words of a block, one by one -/
def TW (F : List Int) (a : Int) (h : List Int) (t : Int) (L : List Int) : St := ⟨tmL 311 [(3, .sv (.one (.slc 0 0 80 (some 80)))), (5, .sv (.one (.slc 17 0 8 none))), (7, .sv (.one (.sq 18 F.length))), (8, .sv (.one (.int .i64 a))), (9, .sv (.one (.sq 19 L.length))), (10, .sv (.one (.int .i64 t)))], .blk 63 (cellsL .u64 80 kC) :: (List.replicate 16 .dead ++ [.blk 57 (cellsL W 8 h), .seq 5 .u8 F, .seq 57 W L])⟩
def shW (st : St) : St := (cut 20) ((keepS [0, 17, 18, 19]) ((nameT 9 19 57 W) ((grow 20) ((mask [3, 5, 7, 8, 9, 10] [8, 10]) st))))
theorem hwW : Weak NoS shW := Weak.comp (f := fun st => (keepS [0, 17, 18, 19]) ((nameT 9 19 57 W) ((grow 20) ((mask [3, 5, 7, 8, 9, 10] [8, 10]) st)))) (g := cut 20) (Weak.comp (f := fun st => (nameT 9 19 57 W) ((grow 20) ((mask [3, 5, 7, 8, 9, 10] [8, 10]) st))) (g := keepS [0, 17, 18, 19]) (Weak.comp (f := fun st => (grow 20) ((mask [3, 5, 7, 8, 9, 10] [8, 10]) st)) (g := nameT 9 19 57 W) (Weak.comp (f := fun st => (mask [3, 5, 7, 8, 9, 10] [8, 10]) st) (g := grow 20) (mask_weak NoS [3, 5, 7, 8, 9, 10] [8, 10]) (grow_weak NoS 20)) (nameT_weak (t := 9) (tgt := 19) (e := 57) (k := W) (fun S h => h _))) (keepS_weak NoS [0, 17, 18, 19])) (cut_weak fun S h m k hm => by have := h m; rw [this] at hm; cases hm)
def pS (a t : Int) (j : Nat) : Int := match j with
  | 0 => IntKind.i64.wrap (a + IntKind.i64.wrap (4 * t))
  | j => IntKind.i64.wrap (IntKind.i64.wrap (a + IntKind.i64.wrap (4 * t)) + (j : Nat))
def bS (F : List Int) (a t : Int) (j : Nat) : Int := W.wrap (F.getD (pS a t j).toNat 0)
def wdS (F : List Int) (a t : Int) : Int := orI W (orI W (orI W (shlI W (bS F a t 0) 24) (shlI W (bS F a t 1) 16)) (shlI W (bS F a t 2) 8)) (bS F a t 3)
def ix (t : Int) (d : Int) : Int := IntKind.i64.wrap (t - d)
def newS (L : List Int) (t : Int) : Int := W.wrap (W.wrap (W.wrap (L.getD (ix t 16).toNat 0 + L.getD (ix t 7).toNat 0) + mixW (L.getD (ix t 15).toNat 0) 7 18 3) + mixW (L.getD (ix t 2).toNat 0) 17 19 10)
def needsB (F : List Int) (a t : Int) : List Prop := (List.range 4).flatMap fun j => [0 ≤ pS a t j, pS a t j < F.length, (pS a t j).toNat < F.length]
def needsI (L : List Int) (t : Int) (ds : List Int) : List Prop := ds.flatMap fun d => [0 ≤ ix t d, ix t d < L.length, (ix t d).toNat < L.length]
def needsL (L : List Int) (x : Int) : List Prop := [(L ++ [x]).length ≤ 8796093022208, L.length = L.length]
theorem roundW (F : List Int) (a : Int) (h : List Int) (t : Int) (L : List Int) : (exec Try.prog [ctRights] [] [500017] 6 (loopAt (bodyOf Try.f26) 14) (TW F a h t L)).shape shW shW =
    .br (decide (t < 64)) (.br (decide (t < 16))
      (needs (needsB F a t ++ needsL L (wdS F a t)) (.leaf .normal (TW F a h (IntKind.i64.wrap (t + 1)) (L ++ [wdS F a t]))))
      (needs (needsI L t [15, 15, 15, 2, 2, 2, 16, 7] ++ needsL L (newS L t)) (.leaf .normal (TW F a h (IntKind.i64.wrap (t + 1)) (L ++ [newS L t]))))) (.leaf (.exit 4) (TW F a h t L)) := by kernel_rfl
/-! ### The rounds of a block, one by one -/
def TV (F : List Int) (a : Int) (h w : List Int) (t : Int) (v : List Int) : St := ⟨tmL 311 [(3, .sv (.one (.slc 0 0 80 (some 80)))), (5, .sv (.one (.slc 17 0 8 none))), (7, .sv (.one (.sq 18 F.length))), (8, .sv (.one (.int .i64 a))), (9, .sv (.one (.sq 19 w.length))), (14, .sv (.one (.slc 20 0 8 none))), (15, .sv (.one (.int .i64 t)))], .blk 63 (cellsL .u64 80 kC) :: (List.replicate 16 .dead ++ [.blk 57 (cellsL W 8 h), .seq 5 .u8 F, .seq 57 W w, .blk 57 (cellsL W 8 v)])⟩
def shV (st : St) : St := (cut 21) ((normB 20) ((keepS [0, 17, 18, 19, 20]) ((nameT 14 20 57 W) ((grow 21) ((mask [3, 5, 7, 8, 9, 14, 15] [8, 15]) st)))))
theorem hwV : Weak NoS shV := Weak.comp (f := fun st => (normB 20) ((keepS [0, 17, 18, 19, 20]) ((nameT 14 20 57 W) ((grow 21) ((mask [3, 5, 7, 8, 9, 14, 15] [8, 15]) st))))) (g := cut 21) (Weak.comp (f := fun st => (keepS [0, 17, 18, 19, 20]) ((nameT 14 20 57 W) ((grow 21) ((mask [3, 5, 7, 8, 9, 14, 15] [8, 15]) st)))) (g := normB 20) (Weak.comp (f := fun st => (nameT 14 20 57 W) ((grow 21) ((mask [3, 5, 7, 8, 9, 14, 15] [8, 15]) st))) (g := keepS [0, 17, 18, 19, 20]) (Weak.comp (f := fun st => (grow 21) ((mask [3, 5, 7, 8, 9, 14, 15] [8, 15]) st)) (g := nameT 14 20 57 W) (Weak.comp (f := fun st => (mask [3, 5, 7, 8, 9, 14, 15] [8, 15]) st) (g := grow 21) (mask_weak NoS [3, 5, 7, 8, 9, 14, 15] [8, 15]) (grow_weak NoS 21)) (nameT_weak (t := 14) (tgt := 20) (e := 57) (k := W) (fun S h => h _))) (keepS_weak NoS [0, 17, 18, 19, 20])) (normB_weak NoS 20)) (cut_weak fun S h m k hm => by have := h m; rw [this] at hm; cases hm)
def kS (t : Int) : Int := IntKind.u32.wrap (shrI .u64 ((toLen 80 kC).getD (0 + t.toNat) 0) 32)
def needsV (w : List Int) (t : Int) : List Prop := [0 ≤ t, t < ((80 : Nat) : Int), 0 + t.toNat < (toLen 80 kC).length, 0 ≤ t, t < w.length, t.toNat < w.length]
theorem roundV (F : List Int) (a : Int) (h w : List Int) (t : Int) (v : List Int) : (exec Try.prog [ctRights] [] [] 0 (loopAt (bodyOf Try.f26) 25) (TV F a h w t v)).shape shV shV =
    .br (decide (t < 64)) (needs (needsV w t) (.leaf .normal (TV F a h w (IntKind.i64.wrap (t + 1)) (rnd (kS t) (w.getD t.toNat 0) v)))) (.leaf (.exit 6) (TV F a h w t v)) := by kernel_rfl
end Go.Proofs.Ytihmhnfjdkkbgaa.Sh32
