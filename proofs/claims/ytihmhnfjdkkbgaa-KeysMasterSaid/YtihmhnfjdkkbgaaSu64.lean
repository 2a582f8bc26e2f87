/- Sum512 is what the reference says: no program in sight; and the program's Sum512. -/
import Derived.Test.YtihmhnfjdkkbgaaSt64
import Derived.Test.YtihmhnfjdkkbgaaRxP
noncomputable section
namespace Go.Proofs.Ytihmhnfjdkkbgaa.Sh64
open Go Go.RowKit RX Sh
set_option linter.unusedSimpArgs false
set_option maxRecDepth 1000000
/-! ### Words of bytes -/
theorem wrapW (n : Int) : W.wrap n = n % 18446744073709551616 := by simp [W, IntKind.wrap, IntKind.signed, IntKind.bits]
theorem or_nat (a b : Nat) (ha : a < 18446744073709551616) (hb : b < 18446744073709551616) : bits .or W (a : Int) (b : Int) = ((a ||| b : Nat) : Int) := by
  have hx : a ||| b < 2 ^ 64 := Nat.or_lt_two_pow (by omega) (by omega)
  have h1 : (BitVec.ofInt 64 (a : Int)).toNat = a := by
    rw [BitVec.ofInt_natCast, BitVec.toNat_ofNat]; exact Nat.mod_eq_of_lt (by omega)
  have h2 : (BitVec.ofInt 64 (b : Int)).toNat = b := by
    rw [BitVec.ofInt_natCast, BitVec.toNat_ofNat]; exact Nat.mod_eq_of_lt (by omega)
  show W.wrap ((BitVec.ofInt 64 (a : Int) ||| BitVec.ofInt 64 (b : Int)).toNat : Int) = _
  rw [BitVec.toNat_or, h1, h2, wrapW]
  omega
theorem or_sum (k : Nat) {a b : Nat} (hb : b < 2 ^ k) (h : 2 ^ k * a + b < 18446744073709551616) : orI W ((2 ^ k * a : Nat) : Int) (b : Int) = ((2 ^ k * a + b : Nat) : Int) := by
  unfold orI
  rw [or_nat _ _ (by omega) (by omega), Nat.two_pow_add_eq_or_of_lt hb]
theorem shl_nat {a k : Nat} (hk : k ≤ 64) (h : 2 ^ k * a < 18446744073709551616) : shlI W (a : Int) k = ((2 ^ k * a : Nat) : Int) := by
  unfold shlI
  rw [Nat.min_eq_left (by show k ≤ 64; exact hk), wrapW]
  have : (a : Int) * 2 ^ k = ((2 ^ k * a : Nat) : Int) := by push_cast; exact Int.mul_comm _ _
  rw [this]
  omega
/-- A number of digits of 256, the first one first. -/
def hz (f : Nat → Nat) : Nat → Nat
  | 0 => 0
  | n + 1 => 256 * hz f n + f n
theorem hz_lt {f : Nat → Nat} (h : ∀ i, f i ≤ 255) : ∀ n, hz f n < 256 ^ n
  | 0 => by simp [hz]
  | n + 1 => by have := hz_lt h n; have := h n; simp only [hz, Nat.pow_succ]; omega
theorem pow_le {n : Nat} (h : n < 8) : 256 ^ n ≤ 72057594037927936 := by
  have : 256 ^ n ≤ 256 ^ 7 := Nat.pow_le_pow_right (by decide) (by omega)
  omega
theorem wordB_hz {s : ByteArray} {t : Nat} {f : Nat → Nat} (hf : ∀ i, f i ≤ 255) (hs : ∀ i, i < 8 → sbyte s ((8 * t + i : Nat) : Int) = (f i : Int)) : ∀ n, n ≤ 8 → wordB s t n = (hz f n : Int)
  | 0, _ => rfl
  | n + 1, h => by
    have ih := wordB_hz hf hs n (by omega)
    have hl := hz_lt hf n
    have hp := pow_le (n := n) (by omega)
    have hfn := hf n
    show orI W (shlI W (wordB s t n) 8) (W.wrap (sbyte s ((8 * t + n : Nat) : Int))) = _
    rw [ih, hs n (by omega), shl_nat (by omega) (by omega)]
    have e : W.wrap (f n : Int) = (f n : Int) := by rw [wrapW]; omega
    rw [e, or_sum 8 (by omega) (by omega)]
    rfl
/-! ### What the blocks are made of -/
def Bytes (L : List Int) : Prop := ∀ x ∈ L, 0 ≤ x ∧ x ≤ 255
theorem Bytes.at_ {L : List Int} (h : Bytes L) (i : Nat) : 0 ≤ L.getD i 0 ∧ L.getD i 0 ≤ 255 := by
  rw [List.getD_eq_getElem?_getD]
  cases e : L[i]? with
  | none => simp
  | some x => exact h x (List.mem_of_getElem? e)
theorem wrap8 (n : Int) : IntKind.u8.wrap n = n % 256 := by simp [IntKind.wrap, IntKind.signed, IntKind.bits]
theorem lenApp_bytes {n : Nat} {L : List Int} (h : Bytes L) : ∀ j, Bytes (lenApp n L j)
  | 0 => h
  | j + 1 => fun x hx => (List.mem_append.1 hx).elim (lenApp_bytes h j x) fun hx => by
    rw [List.mem_singleton.1 hx, lenByte, wrap8]; omega
theorem full_bytes (data : ByteArray) : Bytes (fullB data) := by
  refine lenApp_bytes (fun x hx => ?_) _
  simp only [padded, full0, List.mem_append, List.mem_singleton, List.mem_replicate, strNums, List.mem_map] at hx
  rcases hx with (⟨b, _, rfl⟩ | rfl) | ⟨_, rfl⟩
  · have := b.toNat_lt; omega
  · omega
  · omega
theorem lenByte_eq {n j : Nat} (hn : n ≤ 1099511627776) (hj : j < 16) : lenByteR n j = lenByte n j := by
  have e1 : IntKind.u64.wrap (n : Int) = n := IntWalk.u64_in _ (by omega)
  have e2 : IntKind.u64.wrap ((n : Int) * 8) = (n : Int) * 8 := IntWalk.u64_in _ (by omega)
  have e3 : IntKind.i64.wrap ((n : Int) * 8) = (n : Int) * 8 := IntWalk.i64_in _ (by omega)
  unfold lenByteR lenByte
  rw [e1, e2, e3]
  by_cases h : 7 < j
  · rw [show Nat.blt 7 j = true by rw [Nat.blt_eq]; exact h, cond_true]
    have e : shrI .u64 ((n : Int) * 8) (8 * j) = 0 := by
      unfold shrI
      rw [Nat.min_eq_right (by show 64 ≤ 8 * j; omega)]
      exact Int.fdiv_eq_zero_of_lt (by omega) (by show (n : Int) * 8 < 2 ^ 64; omega)
    rw [e]; rfl
  · rw [show Nat.blt 7 j = false by rw [Bool.eq_false_iff]; intro e; rw [Nat.blt_eq] at e; exact h e, cond_false]
    rfl
theorem lenApp_eq {n : Nat} (hn : n ≤ 1099511627776) (L : List Int) : ∀ j, j ≤ 16 → lenAppR n L j = lenApp n L j
  | 0, _ => rfl
  | j + 1, h => by
    show lenAppR n L j ++ [lenByteR n (16 - 1 - j)] = lenApp n L j ++ [lenByte n (16 - 1 - j)]
    rw [lenApp_eq hn L j (by omega), lenByte_eq hn (by omega)]
theorem full_eq {data : ByteArray} (h : data.size ≤ 1099511627776) : fullR data = fullB data := lenApp_eq h _ 16 (Nat.le_refl _)
/-! ### A block's words -/
theorem blk_at {F : List Int} (hF : Bytes F) {m i : Nat} (hm : 128 * m + 128 ≤ F.length) (hi : i < 128) : sbyte (blk F m) ((i : Nat) : Int) = F.getD (128 * m + i) 0 := by
  unfold blk
  have e : ((F.drop (128 * m)).take 128).getD i 0 = F.getD (128 * m + i) 0 := by
    simp only [List.getD_eq_getElem?_getD, List.getElem?_take_of_lt hi, List.getElem?_drop]
  rw [sbyte_strOfNums (by simp; omega) (by rw [e]; exact hF.at_ _), e]
def byF (F : List Int) (m t i : Nat) : Nat := (F.getD (128 * m + (8 * t + i)) 0).toNat
theorem byF_le {F : List Int} (hF : Bytes F) (m t i : Nat) : byF F m t i ≤ 255 := by have := hF.at_ (128 * m + (8 * t + i)); unfold byF; omega
theorem wdP_hz {F : List Int} (hF : Bytes F) {m t : Nat} (hm : 128 * m + 128 ≤ F.length) (ht : t < 16) : wdP (blk F m) t = (hz (byF F m t) 8 : Int) := by
  refine wordB_hz (byF_le hF m t) (fun i hi => ?_) 8 (Nat.le_refl _)
  rw [blk_at hF hm (by omega)]
  have := hF.at_ (128 * m + (8 * t + i))
  unfold byF
  omega
theorem atS {F : List Int} (hF : Bytes F) {m t j : Nat} (hm : 128 * m ≤ 2199023255552) (ht : t < 16) (hj : j < 8) : W.wrap (F.getD (pS ((128 * m : Nat) : Int) (t : Int) j).toNat 0) = (byF F m t j : Int) := by
  rw [pS_eq hm ht hj, Int.toNat_natCast, show 128 * m + 8 * t + j = 128 * m + (8 * t + j) by omega, wrapW]
  have := hF.at_ (128 * m + (8 * t + j))
  unfold byF
  omega
theorem wordS_hz {F : List Int} (hF : Bytes F) {m t : Nat} (hs : 128 * m ≤ 2199023255552) (ht : t < 16) : ∀ n, n ≤ 8 → wordS F ((128 * m : Nat) : Int) (t : Int) n = (hz (byF F m t) n : Int)
  | 0, _ => rfl
  | n + 1, h => by
    have ih := wordS_hz hF hs ht n (by omega)
    have hl := hz_lt (byF_le hF m t) n
    have hp := pow_le (n := n) (by omega)
    have hb := byF_le hF m t n
    show W.wrap (W.wrap (256 * wordS F _ (t : Int) n) + W.wrap (F.getD (pS _ (t : Int) n).toNat 0)) = ((256 * hz (byF F m t) n + byF F m t n : Nat) : Int)
    rw [ih, atS hF hs ht (by omega), wrapW, wrapW]
    omega
theorem wdS_hz {F : List Int} (hF : Bytes F) {m t : Nat} (hs : 128 * m ≤ 2199023255552) (ht : t < 16) : wdS F ((128 * m : Nat) : Int) (t : Int) = (hz (byF F m t) 8 : Int) := wordS_hz hF hs ht 8 (Nat.le_refl _)
theorem wd_eq {F : List Int} (hF : Bytes F) {m t : Nat} (hm : 128 * m + 128 ≤ F.length) (hs : F.length ≤ 2199023255552) (ht : t < 16) : wdS F ((128 * m : Nat) : Int) (t : Int) = wdP (blk F m) t := by
  rw [wdS_hz hF (by omega) ht, wdP_hz hF hm ht]
theorem rev_at {L : List Int} {j : Nat} (h : j < L.length) : L.reverse.getD j 0 = L.getD (L.length - 1 - j) 0 := by
  simp only [List.getD_eq_getElem?_getD, List.getElem?_reverse h]
theorem wR_rev {F : List Int} (hF : Bytes F) {m : Nat} (hm : 128 * m + 128 ≤ F.length) (hs : F.length ≤ 2199023255552) : ∀ t, t ≤ 80 → wR (wdP (blk F m)) t = (wF F ((128 * m : Nat) : Int) t).reverse
  | 0, _ => rfl
  | t + 1, h => by
    have ih := wR_rev hF hm hs t (by omega)
    have hl := wF_length F ((128 * m : Nat) : Int) t
    rw [wF, List.reverse_append, ← ih]
    show (bif Nat.blt t 16 then _ else _) :: _ = (bif Nat.blt t 16 then _ else _) :: _
    congr 1
    by_cases h16 : t < 16
    · rw [show Nat.blt t 16 = true by rw [Nat.blt_eq]; exact h16, cond_true, cond_true, wd_eq hF hm hs h16]
    · rw [show Nat.blt t 16 = false by rw [Bool.eq_false_iff]; intro e; rw [Nat.blt_eq] at e; exact h16 e, cond_false, cond_false, ih]
      have e : ∀ d : Nat, 0 < d → d ≤ 16 → (wF F ((128 * m : Nat) : Int) t).reverse.getD (d - 1) 0 = (wF F ((128 * m : Nat) : Int) t).getD (ix (t : Int) (d : Int)).toNat 0 := by
        intro d h0 h1
        rw [rev_at (by omega), hl, ix_eq (by omega) (by omega), Int.toNat_natCast]
        congr 1
        omega
      have e16 := e 16 (by omega) (by omega)
      have e7 := e 7 (by omega) (by omega)
      have e15 := e 15 (by omega) (by omega)
      have e2 := e 2 (by omega) (by omega)
      unfold newS
      rw [show (16 : Nat) - 1 = 15 from rfl] at e16
      rw [show (7 : Nat) - 1 = 6 from rfl] at e7
      rw [show (15 : Nat) - 1 = 14 from rfl] at e15
      rw [show (2 : Nat) - 1 = 1 from rfl] at e2
      rw [e16, e7, e15, e2]
      rfl
theorem wF_keep (F : List Int) (a : Int) {t : Nat} : ∀ {n : Nat}, t < n → (wF F a n).getD t 0 = (wF F a (t + 1)).getD t 0
  | 0, h => by omega
  | n + 1, h => by
    by_cases e : t = n
    · subst e; rfl
    · rw [← wF_keep F a (n := n) (by omega)]
      have hl := wF_length F a n
      show (wF F a n ++ [_]).getD t 0 = _
      simp only [List.getD_eq_getElem?_getD]
      rw [List.getElem?_append_left (by omega)]
theorem wT_eq {F : List Int} (hF : Bytes F) {m : Nat} (hm : 128 * m + 128 ≤ F.length) (hs : F.length ≤ 2199023255552) {t : Nat} (ht : t < 80) : wT (wdP (blk F m)) t = (wF F ((128 * m : Nat) : Int) 80).getD t 0 := by
  have hl := wF_length F ((128 * m : Nat) : Int) (t + 1)
  rw [wF_keep F _ ht, wT, wR_rev hF hm hs (t + 1) (by omega), rev_at (by omega), hl]
  rfl
theorem kS_eq {t : Nat} (ht : t < 80) : kS (t : Int) = kO t := by
  unfold kS kO
  rw [Nat.zero_add, Int.toNat_natCast, toLen_getD ht]
theorem vF_eq {F : List Int} (hF : Bytes F) {m : Nat} (hm : 128 * m + 128 ≤ F.length) (hs : F.length ≤ 2199023255552) (h : List Int) : ∀ n, n ≤ 80 → vF h (wF F ((128 * m : Nat) : Int) 80) n = rounds (wdP (blk F m)) h n
  | 0, _ => rfl
  | n + 1, hn => by
    show rnd (kS n) _ _ = rnd (kO n) _ _
    rw [kS_eq (by omega), ← wT_eq hF hm hs (by omega), vF_eq hF hm hs h n (by omega)]
theorem prF_eq {F : List Int} (hF : Bytes F) {m : Nat} (hm : 128 * m + 128 ≤ F.length) (hs : F.length ≤ 2199023255552) (h : List Int) : prF F ((128 * m : Nat) : Int) h = pressW (wdP (blk F m)) h := by
  unfold prF pressW
  rw [vF_eq hF hm hs h 80 (Nat.le_refl _)]
theorem toLen_self {n : Nat} {L : List Int} (h : L.length = n) : toLen n L = L := by
  apply List.ext_getElem
  · rw [toLen_length, h]
  · intro i h1 h2
    simp [toLen, h2]
theorem hN_length (F : List Int) : ∀ n, (hN F n).length = 8
  | 0 => by kernel_rfl
  | n + 1 => by simp [hN, pressW]
theorem hF_eq {F : List Int} (hF : Bytes F) (hs : F.length ≤ 2199023255552) : ∀ n, 128 * n ≤ F.length → hF_ F n = hN F n
  | 0, _ => rfl
  | n + 1, h => by
    show prF F ((128 * n : Nat) : Int) (hF_ F n) = pressW (wdP (blk F n)) (toLen 8 (hN F n))
    rw [toLen_self (hN_length F n), hF_eq hF hs n (by omega), prF_eq hF (by omega) hs]
theorem out_eq (h : List Int) : outR h = outL h := rfl
theorem sm_eq {data : ByteArray} (h : data.size ≤ 1099511627776) : smS data = dgS data := by
  have hF := fullB_length data
  have hs := fullB_le data
  unfold smS dgS smL dgL
  rw [full_eq h, out_eq, hF_eq (full_bytes data) (by omega) _ (by omega)]
/-! ### The program's sum -/
def ctSum : Ct := shCt 28 [.str] fun ds => ([(dS ds 0).size ≤ 1099511627776], .sv (.one (.strn (dgS (dS ds 0)) 64 (dgS_size _))))
theorem ctSum_ok : CtOk Try.prog ctSum :=
  oneCt_ok (cts := [ctKind, ctDigest]) (fz := []) (fuel := 10) mix (allOk ⟨ctKind_ok, ctDigest_ok, trivial⟩) Try.func28 (by kernel_rfl) (by kernel_rfl) (fun _ => rfl) fun ds h hn => match ds, h, hn with
    | [.S data], h, hn => ⟨_, viewArgs_is h, [data.size ≤ 1099511627776], by kernel_rfl, hn⟩
/-- The reference's, by the digest. -/
def ctRef : Ct := shCt 29 [.str] fun ds => ([(dS ds 0).size ≤ 1099511627776], .sv (.one (.strn (dgS (dS ds 0)) 64 (dgS_size _))))
end Go.Proofs.Ytihmhnfjdkkbgaa.Sh64
