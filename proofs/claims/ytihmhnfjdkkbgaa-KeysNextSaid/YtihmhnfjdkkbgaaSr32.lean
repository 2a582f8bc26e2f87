/- The walk of the package cressetref01: Sum256. -/
import Derived.Test.YtihmhnfjdkkbgaaSb32
noncomputable section
namespace Go.Proofs.Ytihmhnfjdkkbgaa.Sh32
open Go Go.RowKit RX Sh
set_option linter.unusedSimpArgs false
set_option maxRecDepth 1000000
def ctKR : Ct := ownCt 62 [] .u64 80 63 fun _ => kC
theorem ctKR_ok : CtOk Try.prog ctKR :=
  ownCt_ok (cts := []) (fz := []) (fuel := 10) mix (by simp) Try.func62 (by kernel_rfl) (by kernel_rfl) fun ds h => match ds, h with
    | [], h => ⟨_, viewArgs_is h, by kernel_rfl⟩
def ctBegR : Ct := ownCt 63 [] .u64 8 63 fun _ => sC
theorem ctBegR_ok : CtOk Try.prog ctBegR :=
  ownCt_ok (cts := []) (fz := []) (fuel := 10) mix (by simp) Try.func63 (by kernel_rfl) (by kernel_rfl) fun ds h => match ds, h with
    | [], h => ⟨_, viewArgs_is h, by kernel_rfl⟩
def ctRight (n : Nat) : Ct := shCt 65 [.num W, .con .i64 n] fun ds => ([], num1 W (turn (dI ds 0) n))
theorem ctRight2_ok : CtOk Try.prog (ctRight 2) :=
  oneCt_ok (cts := []) (fz := []) (fuel := 10) mix (by simp) Try.func65 (by kernel_rfl) (by kernel_rfl) (fun _ => rfl) fun ds h _ => match ds, h with
    | [.I _, .I _], h => ⟨_, viewArgs_is h, [], by kernel_rfl, by simp⟩
theorem ctRight6_ok : CtOk Try.prog (ctRight 6) :=
  oneCt_ok (cts := []) (fz := []) (fuel := 10) mix (by simp) Try.func65 (by kernel_rfl) (by kernel_rfl) (fun _ => rfl) fun ds h _ => match ds, h with
    | [.I _, .I _], h => ⟨_, viewArgs_is h, [], by kernel_rfl, by simp⟩
theorem ctRight7_ok : CtOk Try.prog (ctRight 7) :=
  oneCt_ok (cts := []) (fz := []) (fuel := 10) mix (by simp) Try.func65 (by kernel_rfl) (by kernel_rfl) (fun _ => rfl) fun ds h _ => match ds, h with
    | [.I _, .I _], h => ⟨_, viewArgs_is h, [], by kernel_rfl, by simp⟩
theorem ctRight11_ok : CtOk Try.prog (ctRight 11) :=
  oneCt_ok (cts := []) (fz := []) (fuel := 10) mix (by simp) Try.func65 (by kernel_rfl) (by kernel_rfl) (fun _ => rfl) fun ds h _ => match ds, h with
    | [.I _, .I _], h => ⟨_, viewArgs_is h, [], by kernel_rfl, by simp⟩
theorem ctRight13_ok : CtOk Try.prog (ctRight 13) :=
  oneCt_ok (cts := []) (fz := []) (fuel := 10) mix (by simp) Try.func65 (by kernel_rfl) (by kernel_rfl) (fun _ => rfl) fun ds h _ => match ds, h with
    | [.I _, .I _], h => ⟨_, viewArgs_is h, [], by kernel_rfl, by simp⟩
theorem ctRight17_ok : CtOk Try.prog (ctRight 17) :=
  oneCt_ok (cts := []) (fz := []) (fuel := 10) mix (by simp) Try.func65 (by kernel_rfl) (by kernel_rfl) (fun _ => rfl) fun ds h _ => match ds, h with
    | [.I _, .I _], h => ⟨_, viewArgs_is h, [], by kernel_rfl, by simp⟩
theorem ctRight18_ok : CtOk Try.prog (ctRight 18) :=
  oneCt_ok (cts := []) (fz := []) (fuel := 10) mix (by simp) Try.func65 (by kernel_rfl) (by kernel_rfl) (fun _ => rfl) fun ds h _ => match ds, h with
    | [.I _, .I _], h => ⟨_, viewArgs_is h, [], by kernel_rfl, by simp⟩
theorem ctRight19_ok : CtOk Try.prog (ctRight 19) :=
  oneCt_ok (cts := []) (fz := []) (fuel := 10) mix (by simp) Try.func65 (by kernel_rfl) (by kernel_rfl) (fun _ => rfl) fun ds h _ => match ds, h with
    | [.I _, .I _], h => ⟨_, viewArgs_is h, [], by kernel_rfl, by simp⟩
theorem ctRight22_ok : CtOk Try.prog (ctRight 22) :=
  oneCt_ok (cts := []) (fz := []) (fuel := 10) mix (by simp) Try.func65 (by kernel_rfl) (by kernel_rfl) (fun _ => rfl) fun ds h _ => match ds, h with
    | [.I _, .I _], h => ⟨_, viewArgs_is h, [], by kernel_rfl, by simp⟩
theorem ctRight25_ok : CtOk Try.prog (ctRight 25) :=
  oneCt_ok (cts := []) (fz := []) (fuel := 10) mix (by simp) Try.func65 (by kernel_rfl) (by kernel_rfl) (fun _ => rfl) fun ds h _ => match ds, h with
    | [.I _, .I _], h => ⟨_, viewArgs_is h, [], by kernel_rfl, by simp⟩
def ctRights : Ct := orCt (orCt (orCt (orCt (orCt (orCt (orCt (orCt (orCt (ctRight 2) (ctRight 6)) (ctRight 7)) (ctRight 11)) (ctRight 13)) (ctRight 17)) (ctRight 18)) (ctRight 19)) (ctRight 22)) (ctRight 25)
theorem ctRights_ok : CtOk Try.prog ctRights := orCt_ok2 65 (orCt_ok2 65 (orCt_ok2 65 (orCt_ok2 65 (orCt_ok2 65 (orCt_ok2 65 (orCt_ok2 65 (orCt_ok2 65 (orCt_ok2 65 (ctRight2_ok) ctRight6_ok (rfl) rfl) ctRight7_ok (orCt_f (rfl)) rfl) ctRight11_ok (orCt_f (orCt_f (rfl))) rfl) ctRight13_ok (orCt_f (orCt_f (orCt_f (rfl)))) rfl) ctRight17_ok (orCt_f (orCt_f (orCt_f (orCt_f (rfl))))) rfl) ctRight18_ok (orCt_f (orCt_f (orCt_f (orCt_f (orCt_f (rfl)))))) rfl) ctRight19_ok (orCt_f (orCt_f (orCt_f (orCt_f (orCt_f (orCt_f (rfl))))))) rfl) ctRight22_ok (orCt_f (orCt_f (orCt_f (orCt_f (orCt_f (orCt_f (orCt_f (rfl)))))))) rfl) ctRight25_ok (orCt_f (orCt_f (orCt_f (orCt_f (orCt_f (orCt_f (orCt_f (orCt_f (rfl))))))))) rfl

/-! ### What is pressed in -/
def lenByteR (n : Nat) (j : Nat) : Int := bif Nat.blt 7 j then 0 else IntKind.u8.wrap (shrI .i64 (IntKind.i64.wrap ((n : Int) * 8)) (8 * j))
def lenAppR (n : Nat) (L : List Int) : Nat → List Int
  | 0 => L
  | j + 1 => lenAppR n L j ++ [lenByteR n (8 - 1 - j)]
def fullR (data : ByteArray) : List Int := lenAppR data.size (padded (full0 data)) 8
def TF (data : ByteArray) (L : List Int) : St := ⟨tmL 48 [(0, .sv (.one (.str data))), (1, .sv (.one (.lit .i64 64))), (2, .sv (.one (.lit .i64 8))), (7, .sv (.one (.sq 0 L.length)))], [.seq 5 .u8 L]⟩
def shF (st : St) : St := cut 1 (nameT 7 0 5 .u8 (mask [0, 1, 2, 7] [] st))
theorem hF : Weak NoS shF := Weak.comp (f := fun st => nameT 7 0 5 .u8 (mask [0, 1, 2, 7] [] st)) (g := cut 1) (Weak.comp (f := mask [0, 1, 2, 7] []) (g := nameT 7 0 5 .u8) (mask_weak NoS [0, 1, 2, 7] []) (nameT_weak (t := 7) (tgt := 0) (e := 5) (k := .u8) fun S h => h 0)) (cut_weak fun S h m k hm => by have := h m; rw [this] at hm; cases hm)
theorem roundF (data : ByteArray) (L : List Int) : (exec Try.prog [] [] [] 0 (loopAt (bodyOf Try.f64) 3) (TF data L)).shape shF shF =
    .br (condA L) (.need ((L ++ [0]).length ≤ 8796093022208) (.need (L.length = L.length) (.leaf .normal (TF data (L ++ [0]))))) (.leaf (.exit 0) (TF data L)) := by kernel_rfl
theorem loopF (data : ByteArray) (hd : data.size ≤ 1099511627776) : LpOk Try.prog (loopAt (bodyOf Try.f64) 3) (fun st => .need (shF st = TF data (full0 data)) (.leaf (.exit 0) (TF data (padded (full0 data))))) := by
  refine loop_tpl (P := Try.prog) (cts := []) (lps := []) (fz := []) (fuel := 0) (sh := shF) (shx := shF) mix (by simp) (.inl rfl) (fun _ _ f hf => by cases hf)
    hF hF (TF data) (IA data) (fun L => (full0 data).length + padA (full0 data) - L.length) (fun _ => .leaf (.exit 0) (TF data (padded (full0 data)))) ?_ ⟨0, Nat.zero_le _, by simp⟩
  rintro L ⟨n, hn, rfl⟩ K hK
  rw [roundF]
  have hp := padA_lt (full0 data)
  have h0 := full0_length data
  have hl : (full0 data ++ List.replicate n (0 : Int)).length = data.size + 1 + n := by simp [h0]
  have hc : condA (full0 data ++ List.replicate n 0) = !(decide ((data.size + 1 + n + 8) % 64 = 0)) := by
    unfold condA
    rw [hl, IntWalk.i64_in _ (by omega), Int.tmod_eq_emod_of_nonneg (by omega)]
    congr 1
    exact decide_eq_decide.2 (by omega)
  have hq : padA (full0 data) = (64 - (data.size + 1 + 8) % 64) % 64 := by unfold padA; rw [h0]
  refine ⟨fun hb => ⟨?_, rfl, full0 data ++ List.replicate n 0 ++ [0], rfl, ⟨n + 1, ?_, ?_⟩, ?_, hK⟩, fun hb => ?_⟩
  · rw [List.length_append, hl]; simp; omega
  · rw [hc] at hb
    simp only [Bool.not_eq_true', decide_eq_false_iff_not] at hb
    omega
  · rw [List.replicate_succ', List.append_assoc]
  · rw [hc] at hb
    simp only [Bool.not_eq_true', decide_eq_false_iff_not] at hb
    dsimp only
    rw [List.length_append, hl, h0]
    simp
    omega
  · rw [hc] at hb
    simp only [Bool.not_eq_false', decide_eq_true_eq] at hb
    have e : n = padA (full0 data) := by omega
    show K (.exit 0) (TF data (full0 data ++ List.replicate n 0))
    rw [e]
    exact hK
theorem lenAppR_length (n : Nat) (L : List Int) : ∀ j, (lenAppR n L j).length = L.length + j
  | 0 => rfl
  | j + 1 => by simp [lenAppR, lenAppR_length n L j]; omega
def needsF (data : ByteArray) : List Prop :=
  [(full0 data).length ≤ 8796093022208, (strNums data).length = (strNums data).length, TF data (full0 data) = TF data (full0 data)] ++
  ((List.range 8).flatMap fun j => [(lenAppR data.size (padded (full0 data)) (j + 1)).length ≤ 8796093022208, (lenAppR data.size (padded (full0 data)) j).length = (lenAppR data.size (padded (full0 data)) j).length]) ++
  [(fullR data).length = (fullR data).length]
theorem needsF_ok (data : ByteArray) (hd : data.size ≤ 1099511627776) : ∀ p ∈ needsF data, p := by
  intro p hp
  have h0 := full0_length data
  have hp := padA_lt (full0 data)
  rcases List.mem_append.1 ‹p ∈ needsF data› with h | h
  · rcases List.mem_append.1 h with h | h
    · simp only [List.mem_cons, List.not_mem_nil, or_false] at h
      rcases h with rfl | rfl | rfl
      all_goals first | omega | trivial
    · obtain ⟨j, hj, h⟩ := List.mem_flatMap.1 h
      rw [List.mem_range] at hj
      simp only [List.mem_cons, List.not_mem_nil, or_false] at h
      rcases h with rfl | rfl
      · rw [lenAppR_length, padded_length]; omega
      · trivial
  · rw [List.mem_singleton.1 h]
theorem onlyF : ((loopsOf (bodyOf Try.f64)).filter fun b => codeKey b == 3) = [loopAt (bodyOf Try.f64) 3] := by kernel_rfl
def ctFull : Ct := ownSCt 64 [.str, .con .i64 64, .con .i64 8] .u8 5 fun ds => ([(dS ds 0).size ≤ 1099511627776], fullR (dS ds 0))
def lpsF (data : ByteArray) : List (Nat × (St → Tree)) := [(3, fun st => .need (shF st = TF data (full0 data)) (.leaf (.exit 0) (TF data (padded (full0 data)))))]
theorem ctFull_ok : CtOk Try.prog ctFull :=
  ownSCt_ok (cts := []) (fz := []) (fuel := 10) mix (by simp) Try.func64 (by kernel_rfl) (by kernel_rfl) fun ds h hn => match ds, h, hn with
    | [.S data, .I _, .I _], h, hn => by
      have hd : data.size ≤ 1099511627776 := hn _ (List.mem_singleton.2 rfl)
      refine ⟨lpsF data, lpsOk (lps := lpsF data) ⟨fun body hb hk => ?_, trivial⟩, _, viewArgs_is h, needsF data, by kernel_rfl, needsF_ok data hd⟩
      rw [loopAt_is onlyF hb hk]
      exact loopF data hd

def pR (a : Int) (t j : Nat) : Int := match j with
  | 0 => IntKind.i64.wrap (a + ((4 * t : Nat) : Int))
  | j => IntKind.i64.wrap (IntKind.i64.wrap (a + ((4 * t : Nat) : Int)) + (j : Nat))
def bR (F : List Int) (a : Int) (t j : Nat) : Int := W.wrap (F.getD (pR a t j).toNat 0)
def wdR (F : List Int) (a : Int) (t : Nat) : Int := orI W (orI W (orI W (shlI W (bR F a t 0) 24) (shlI W (bR F a t 1) 16)) (shlI W (bR F a t 2) 8)) (bR F a t 3)
def outR (h : List Int) : List Int := (List.range 32).map fun j => bif Nat.beq (j % 4) 3 then IntKind.u8.wrap (h.getD (j / 4) 0) else IntKind.u8.wrap (shrI W (h.getD (j / 4) 0) (24 - 8 * (j % 4)))
def hR (F : List Int) : Nat → List Int
  | 0 => startC
  | n + 1 => pressW (wdR F ((64 * n : Nat) : Int)) (toLen 8 (hR F n))
def TR (F : List Int) (a : Int) (h : List Int) : St := ⟨tmL 311 [(3, .sv (.one (.slc 0 0 80 (some 80)))), (5, .sv (.one (.slc 17 0 8 none))), (7, .sv (.one (.sq 18 F.length))), (8, .sv (.one (.int .i64 a)))], .blk 63 (cellsL .u64 80 kC) :: (List.replicate 16 .dead ++ [.blk 57 (cellsL W 8 h), .seq 5 .u8 F])⟩
def shR (st : St) : St := cut 19 (normB 17 (keepS [0, 17, 18] (mask [3, 5, 7, 8] [8] st)))
theorem hwR : Weak NoS shR := Weak.comp (f := fun st => normB 17 (keepS [0, 17, 18] (mask [3, 5, 7, 8] [8] st))) (g := cut 19) (Weak.comp (f := fun st => keepS [0, 17, 18] (mask [3, 5, 7, 8] [8] st)) (g := normB 17) (Weak.comp (f := mask [3, 5, 7, 8] [8]) (g := keepS [0, 17, 18]) (mask_weak NoS [3, 5, 7, 8] [8]) (keepS_weak NoS [0, 17, 18])) (normB_weak NoS 17)) (cut_weak fun S h m k hm => by have := h m; rw [this] at hm; cases hm)
end Go.Proofs.Ytihmhnfjdkkbgaa.Sh32
