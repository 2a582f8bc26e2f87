/- The walk of the package sha, words of 32 bits: the digest of bytes. -/
import Derived.Test.YtihmhnfjdkkbgaaSa32
noncomputable section
namespace Go.Proofs.Ytihmhnfjdkkbgaa.Sh32
open Go Go.RowKit RX Sh
set_option linter.unusedSimpArgs false
set_option maxRecDepth 1000000
def padA (L : List Int) : Nat := ((64 - (L.length + 8) % 64) % 64)
def padded (L : List Int) : List Int := L ++ List.replicate (padA L) 0
/-- One byte of how many bits there are. -/
def lenByte (n : Nat) (j : Nat) : Int := IntKind.u8.wrap (shrI .u64 (IntKind.u64.wrap (IntKind.u64.wrap (n : Int) * 8)) (8 * j))
def lenApp (n : Nat) (L : List Int) : Nat → List Int
  | 0 => L
  | j + 1 => lenApp n L j ++ [lenByte n (8 - 1 - j)]
def full0 (data : ByteArray) : List Int := strNums data ++ [128]
def fullB (data : ByteArray) : List Int := lenApp data.size (padded (full0 data)) 8
def blk (F : List Int) (n : Nat) : ByteArray := strOfNums ((F.drop (64 * n)).take 64)
def hN (F : List Int) : Nat → List Int
  | 0 => startC
  | n + 1 => pressW (wdP (blk F n)) (toLen 8 (hN F n))
def outL (h : List Int) : List Int := (List.range 32).map fun j => IntKind.u8.wrap (shrI W (h.getD (j / 4) 0) (32 - 8 - 8 * (j % 4)))
def dgL (data : ByteArray) : List Int := outL (hN (fullB data) ((fullB data).length / 64))
def dgS (data : ByteArray) : ByteArray := strOfNums (toLen 32 (dgL data))
theorem dgS_size (data : ByteArray) : (dgS data).size = 32 := by rw [dgS, strOfNums_size, toLen_length]

/-! ### The loop that fills up -/
def TA (r : List CV) (data : ByteArray) (L : List Int) : St := ⟨tmL 100 [(0, .sv (.one (.co (kindO ++ r) 0))), (1, .sv (.one (.str data))), (5, .sv (.one (.sq 0 L.length)))], [.seq 5 .u8 L]⟩
def shA (st : St) : St := cut 1 (nameT 5 0 5 .u8 (mask [0, 1, 5] [] st))
def condA (L : List Int) : Bool := !(decide ((IntKind.i64.wrap ((L.length : Int) + 8)).tmod 64 = 0))
theorem roundA (r : List CV) (data : ByteArray) (L : List Int) : (exec Try.prog [ctBlock] [] [] 0 (loopAt (bodyOf Try.f60) 3) (TA r data L)).shape shA shA =
    .br (condA L) (.need ((L ++ [0]).length ≤ 8796093022208) (.need (L.length = L.length) (.leaf .normal (TA r data (L ++ [0]))))) (.leaf (.exit 0) (TA r data L)) := by kernel_rfl
/-! ### The loop over the blocks -/
def TC (r : List CV) (F : List Int) (at_ : Int) (h : List Int) : St := ⟨tmL 100 [(0, .sv (.one (.co (kindO ++ r) 0))), (5, .sv (.one (.sq 16 F.length))), (7, .sv (.one (.ptr 17 0))), (8, .sv (.one (.int .i64 at_)))], List.replicate 16 .dead ++ [.seq 5 .u8 F, .blk 82 (cellsL W 8 h)]⟩
def shC (st : St) : St := normB 17 (keepS [16, 17] (mask [0, 5, 7, 8] [8] st))
theorem roundC (r : List CV) (F : List Int) (a : Int) (h : List Int) : (exec Try.prog [ctPress, ctBlock] [] [] 0 (loopAt (bodyOf Try.f60) 11) (TC r F a h)).shape shC shC =
    .br (decide (a < F.length)) (.need (0 ≤ a) (.need (a ≤ IntKind.i64.wrap (a + 64)) (.need (IntKind.i64.wrap (a + 64) ≤ F.length) (.need ((IntKind.i64.wrap (a + 64)).toNat ≤ F.length) (.need ((strOfNums ((F.drop a.toNat).take ((IntKind.i64.wrap (a + 64)).toNat - a.toNat))).size = 64)
      (.leaf .normal (TC r F (IntKind.i64.wrap (a + 64)) (pressW (wdP (strOfNums ((F.drop a.toNat).take ((IntKind.i64.wrap (a + 64)).toNat - a.toNat)))) (toLen 8 h))))))))) (.leaf (.exit 4) (TC r F a h)) := by kernel_rfl

/-! ### How many there are -/
theorem padA_lt (L : List Int) : padA L < 64 := by unfold padA; omega
theorem padded_length (L : List Int) : (padded L).length = L.length + padA L := by simp [padded]
theorem lenApp_length (n : Nat) (L : List Int) : ∀ j, (lenApp n L j).length = L.length + j
  | 0 => rfl
  | j + 1 => by simp [lenApp, lenApp_length n L j]; omega
theorem full0_length (data : ByteArray) : (full0 data).length = data.size + 1 := by simp [full0, strNums_length]
theorem fullB_length (data : ByteArray) : (fullB data).length = 64 * ((fullB data).length / 64) := by
  have h : (fullB data).length % 64 = 0 := by
    unfold fullB
    rw [lenApp_length, padded_length]
    unfold padA
    omega
  omega
theorem fullB_le (data : ByteArray) : (fullB data).length ≤ data.size + 73 := by
  unfold fullB
  rw [lenApp_length, padded_length, full0_length]
  have := padA_lt (full0 data)
  omega

/-! ### The loops -/
def IA (data : ByteArray) (L : List Int) : Prop := ∃ n, n ≤ padA (full0 data) ∧ L = full0 data ++ List.replicate n 0
theorem hA : Weak NoS shA := Weak.comp (f := fun st => nameT 5 0 5 .u8 (mask [0, 1, 5] [] st)) (g := cut 1) (Weak.comp (f := mask [0, 1, 5] []) (g := nameT 5 0 5 .u8) (mask_weak NoS [0, 1, 5] []) (nameT_weak (t := 5) (tgt := 0) (e := 5) (k := .u8) fun S h => h 0)) (cut_weak fun S h m k hm => by have := h m; rw [this] at hm; cases hm)
theorem loopA (r : List CV) (data : ByteArray) (hd : data.size ≤ 1099511627776) : LpOk Try.prog (loopAt (bodyOf Try.f60) 3) (fun st => .need (shA st = TA r data (full0 data)) (.leaf (.exit 0) (TA r data (padded (full0 data))))) := by
  refine loop_tpl (P := Try.prog) (cts := [ctBlock]) (lps := []) (fz := []) (fuel := 0) (sh := shA) (shx := shA) mix (allOk ⟨ctBlock_ok, trivial⟩) (.inl rfl) (fun _ _ f hf => by cases hf)
    hA hA
    (TA r data) (IA data) (fun L => (full0 data).length + padA (full0 data) - L.length) (fun _ => .leaf (.exit 0) (TA r data (padded (full0 data)))) ?_ ⟨0, Nat.zero_le _, by simp⟩
  rintro L ⟨n, hn, rfl⟩ K hK
  rw [roundA]
  have hp := padA_lt (full0 data)
  have h0 := full0_length data
  have hl : (full0 data ++ List.replicate n (0 : Int)).length = data.size + 1 + n := by simp [h0]
  have hc : condA (full0 data ++ List.replicate n 0) = !(decide ((data.size + 1 + n + 8) % 64 = 0)) := by
    unfold condA
    rw [hl, IntWalk.i64_in _ (by omega), Int.tmod_eq_emod_of_nonneg (by omega)]
    congr 1
    exact decide_eq_decide.2 (by omega)
  have hq : padA (full0 data) = (64 - (data.size + 1 + 8) % 64) % 64 := by unfold padA; rw [h0]
  refine ⟨fun hb => ⟨?_, rfl, full0 data ++ List.replicate n 0 ++ [0], rfl, ⟨n + 1, ?_, ?_⟩, ?_, hK⟩, fun hb => ?_⟩
  · rw [List.length_append, hl]; simp; omega
  · rw [hc] at hb
    simp only [Bool.not_eq_true', decide_eq_false_iff_not] at hb
    omega
  · rw [List.replicate_succ', List.append_assoc]
  · rw [hc] at hb
    simp only [Bool.not_eq_true', decide_eq_false_iff_not] at hb
    dsimp only
    rw [List.length_append, hl, h0]
    simp
    omega
  · rw [hc] at hb
    simp only [Bool.not_eq_false', decide_eq_true_eq] at hb
    have e : n = padA (full0 data) := by omega
    show K (.exit 0) (TA r data (full0 data ++ List.replicate n 0))
    rw [e]
    exact hK
def IC (F : List Int) (x : Int × List Int) : Prop := ∃ n, n ≤ F.length / 64 ∧ x.1 = ((64 * n : Nat) : Int) ∧ x.2 = hN F n
theorem loopC (r : List CV) (F : List Int) (hF : F.length = 64 * (F.length / 64)) (hs : F.length ≤ 2199023255552) : LpOk Try.prog (loopAt (bodyOf Try.f60) 11) (fun st => .need (shC st = TC r F 0 startC) (.leaf (.exit 4) (TC r F F.length (hN F (F.length / 64))))) := by
  have hw : Weak NoS shC := Weak.comp (f := fun st => keepS [16, 17] (mask [0, 5, 7, 8] [8] st)) (g := normB 17) (Weak.comp (f := mask [0, 5, 7, 8] [8]) (g := keepS [16, 17]) (mask_weak NoS [0, 5, 7, 8] [8]) (keepS_weak NoS [16, 17])) (normB_weak NoS 17)
  refine loop_tpl (P := Try.prog) (cts := [ctPress, ctBlock]) (lps := []) (fz := []) (fuel := 0) (sh := shC) (shx := shC) mix (allOk ⟨ctPress_ok, ctBlock_ok, trivial⟩) (.inl rfl) (fun _ _ f hf => by cases hf)
    hw hw (fun x => TC r F x.1 x.2) (IC F) (fun x => F.length - x.1.toNat) (fun _ => .leaf (.exit 4) (TC r F F.length (hN F (F.length / 64)))) ?_ (a0 := (0, startC)) ⟨0, Nat.zero_le _, rfl, rfl⟩
  rintro ⟨a, h⟩ ⟨n, hn, ha, hh⟩ K hK
  dsimp only at ha hh
  subst ha; subst hh
  rw [roundC]
  have e1 : n < F.length / 64 → IntKind.i64.wrap (((64 * n : Nat) : Int) + 64) = ((64 * (n + 1) : Nat) : Int) := fun hlt => by rw [IntWalk.i64_in _ (by omega)]; omega
  refine ⟨fun hb => ?_, fun hb => ?_⟩
  · have hlt : n < F.length / 64 := by
      have := of_decide_eq_true hb
      omega
    rw [e1 hlt, Int.toNat_natCast, Int.toNat_natCast, show 64 * (n + 1) - 64 * n = 64 by omega]
    refine ⟨by omega, by omega, by omega, by omega, ?_, (((64 * (n + 1) : Nat) : Int), _), rfl, ⟨n + 1, hlt, rfl, rfl⟩, ?_, hK⟩
    · rw [strOfNums_size]; simp; omega
    · dsimp only
      rw [Int.toNat_natCast, Int.toNat_natCast]
      omega
  · have hge : n = F.length / 64 := by
      have := of_decide_eq_false hb
      omega
    subst hge
    show K (.exit 4) (TC r F ((64 * (F.length / 64) : Nat) : Int) (hN F (F.length / 64)))
    rw [← hF]
    exact hK

/-! ### The digest -/
def lpsD (r : List CV) (data : ByteArray) : List (Nat × (St → Tree)) :=
  [(3, fun st => .need (shA st = TA r data (full0 data)) (.leaf (.exit 0) (TA r data (padded (full0 data))))),
   (11, fun st => .need (shC st = TC r (fullB data) 0 startC) (.leaf (.exit 4) (TC r (fullB data) (fullB data).length (hN (fullB data) ((fullB data).length / 64)))))]
def needsD (r : List CV) (data : ByteArray) : List Prop :=
  [(full0 data).length ≤ 8796093022208, (strNums data).length = (strNums data).length, TA r data (full0 data) = TA r data (full0 data)] ++
  ((List.range 8).flatMap fun j => [(lenApp data.size (padded (full0 data)) (j + 1)).length ≤ 8796093022208, (lenApp data.size (padded (full0 data)) j).length = (lenApp data.size (padded (full0 data)) j).length]) ++
  [TC r (fullB data) 0 startC = TC r (fullB data) 0 startC]
theorem needsD_ok (r : List CV) (data : ByteArray) (hd : data.size ≤ 1099511627776) : ∀ p ∈ needsD r data, p := by
  intro p hp
  have h0 := full0_length data
  have hp := padA_lt (full0 data)
  rcases List.mem_append.1 ‹p ∈ needsD r data› with h | h
  · rcases List.mem_append.1 h with h | h
    · simp only [List.mem_cons, List.not_mem_nil, or_false] at h
      rcases h with rfl | rfl | rfl
      all_goals first | omega | trivial
    · obtain ⟨j, hj, h⟩ := List.mem_flatMap.1 h
      rw [List.mem_range] at hj
      simp only [List.mem_cons, List.not_mem_nil, or_false] at h
      rcases h with rfl | rfl
      · rw [lenApp_length, padded_length]; omega
      · trivial
  · rw [List.mem_singleton.1 h]
theorem loops_dg : LpsOk Try.prog NoS (bodyOf Try.f60) [] := trivial
def ctDigest : Ct := shCt 60 [.obj kindO, .str] fun ds => ([(dS ds 1).size ≤ 1099511627776], .sv (.one (.strn (dgS (dS ds 1)) 32 (dgS_size _))))
theorem only3 : ((loopsOf (bodyOf Try.f60)).filter fun b => codeKey b == 3) = [loopAt (bodyOf Try.f60) 3] := by kernel_rfl
theorem only11 : ((loopsOf (bodyOf Try.f60)).filter fun b => codeKey b == 11) = [loopAt (bodyOf Try.f60) 11] := by kernel_rfl
theorem ctDigest_ok : CtOk Try.prog ctDigest :=
  runCtL_ok (cts := [ctPress, ctBlock]) (fz := []) (fuel := 10) mix (allOk ⟨ctPress_ok, ctBlock_ok, trivial⟩) Try.func60 (c := bodyOf Try.f60) (by kernel_rfl) (by kernel_rfl) (fun _ => rfl) fun ds h hn => match ds, h, hn with
    | [.O r, .S data], h, hn => by
      have hd : data.size ≤ 1099511627776 := hn _ (List.mem_singleton.2 rfl)
      have hF := fullB_length data
      have hs := fullB_le data
      refine ⟨lpsD r data, lpsOk (c := bodyOf Try.f60) (lps := lpsD r data) ⟨fun body hb hk => ?_, fun body hb hk => ?_, trivial⟩, _, viewArgs_is h, ?_⟩
      · rw [loopAt_is only3 hb hk]
        exact loopA r data hd
      · rw [loopAt_is only11 hb hk]
        exact loopC r (fullB data) hF (by omega)
      · have hr : runC Try.prog [ctPress, ctBlock] (lpsD r data) [] 10 Try.f60 (bodyOf Try.f60) (viewArgs [.obj kindO, .str] [.O r, .S data] h) = needT (needsD r data) (.leaf (str1 (dgS data))) := by kernel_rfl
        rw [hr]
        exact needT_wp (needsD_ok r data hd) rfl
end Go.Proofs.Ytihmhnfjdkkbgaa.Sh32
