/- Sum256 is what the reference says: no program in sight; and the program's Sum256. -/
import Derived.Test.YtihmhnfjdkkbgaaSt32
import Derived.Test.YtihmhnfjdkkbgaaRxP
noncomputable section
namespace Go.Proofs.Ytihmhnfjdkkbgaa.Sh32
open Go Go.RowKit RX Sh
set_option linter.unusedSimpArgs false
set_option maxRecDepth 1000000
/-! ### Words of bytes -/
theorem wrapW (n : Int) : W.wrap n = n % 4294967296 := by simp [W, IntKind.wrap, IntKind.signed, IntKind.bits]
theorem or_nat (a b : Nat) (ha : a < 4294967296) (hb : b < 4294967296) : bits .or W (a : Int) (b : Int) = ((a ||| b : Nat) : Int) := by
  have hx : a ||| b < 2 ^ 32 := Nat.or_lt_two_pow (by omega) (by omega)
  have h1 : (BitVec.ofInt 32 (a : Int)).toNat = a := by
    rw [BitVec.ofInt_natCast, BitVec.toNat_ofNat]; exact Nat.mod_eq_of_lt (by omega)
  have h2 : (BitVec.ofInt 32 (b : Int)).toNat = b := by
    rw [BitVec.ofInt_natCast, BitVec.toNat_ofNat]; exact Nat.mod_eq_of_lt (by omega)
  show W.wrap ((BitVec.ofInt 32 (a : Int) ||| BitVec.ofInt 32 (b : Int)).toNat : Int) = _
  rw [BitVec.toNat_or, h1, h2, wrapW]
  omega
theorem or_sum (k : Nat) {a b : Nat} (hb : b < 2 ^ k) (h : 2 ^ k * a + b < 4294967296) : orI W ((2 ^ k * a : Nat) : Int) (b : Int) = ((2 ^ k * a + b : Nat) : Int) := by
  unfold orI
  rw [or_nat _ _ (by omega) (by omega), Nat.two_pow_add_eq_or_of_lt hb]
theorem shl_nat {a k : Nat} (hk : k ≤ 32) (h : 2 ^ k * a < 4294967296) : shlI W (a : Int) k = ((2 ^ k * a : Nat) : Int) := by
  unfold shlI
  rw [Nat.min_eq_left (by show k ≤ 32; exact hk), wrapW]
  have : (a : Int) * 2 ^ k = ((2 ^ k * a : Nat) : Int) := by push_cast; exact Int.mul_comm _ _
  rw [this]
  omega
/-- A number of digits of 256, the first one first. -/
def hz (f : Nat → Nat) : Nat → Nat
  | 0 => 0
  | n + 1 => 256 * hz f n + f n
theorem hz_lt {f : Nat → Nat} (h : ∀ i, f i ≤ 255) : ∀ n, hz f n < 256 ^ n
  | 0 => by simp [hz]
  | n + 1 => by have := hz_lt h n; have := h n; simp only [hz, Nat.pow_succ]; omega
theorem pow_le {n : Nat} (h : n < 4) : 256 ^ n ≤ 16777216 := by
  have : 256 ^ n ≤ 256 ^ 3 := Nat.pow_le_pow_right (by decide) (by omega)
  omega
theorem wordB_hz {s : ByteArray} {t : Nat} {f : Nat → Nat} (hf : ∀ i, f i ≤ 255) (hs : ∀ i, i < 4 → sbyte s ((4 * t + i : Nat) : Int) = (f i : Int)) : ∀ n, n ≤ 4 → wordB s t n = (hz f n : Int)
  | 0, _ => rfl
  | n + 1, h => by
    have ih := wordB_hz hf hs n (by omega)
    have hl := hz_lt hf n
    have hp := pow_le (n := n) (by omega)
    have hfn := hf n
    show orI W (shlI W (wordB s t n) 8) (W.wrap (sbyte s ((4 * t + n : Nat) : Int))) = _
    rw [ih, hs n (by omega), shl_nat (by omega) (by omega)]
    have e : W.wrap (f n : Int) = (f n : Int) := by rw [wrapW]; omega
    rw [e, or_sum 8 (by omega) (by omega)]
    rfl
/-! ### What the blocks are made of -/
def Bytes (L : List Int) : Prop := ∀ x ∈ L, 0 ≤ x ∧ x ≤ 255
theorem Bytes.at_ {L : List Int} (h : Bytes L) (i : Nat) : 0 ≤ L.getD i 0 ∧ L.getD i 0 ≤ 255 := by
  rw [List.getD_eq_getElem?_getD]
  cases e : L[i]? with
  | none => simp
  | some x => exact h x (List.mem_of_getElem? e)
theorem wrap8 (n : Int) : IntKind.u8.wrap n = n % 256 := by simp [IntKind.wrap, IntKind.signed, IntKind.bits]
theorem lenApp_bytes {n : Nat} {L : List Int} (h : Bytes L) : ∀ j, Bytes (lenApp n L j)
  | 0 => h
  | j + 1 => fun x hx => (List.mem_append.1 hx).elim (lenApp_bytes h j x) fun hx => by
    rw [List.mem_singleton.1 hx, lenByte, wrap8]; omega
theorem full_bytes (data : ByteArray) : Bytes (fullB data) := by
  refine lenApp_bytes (fun x hx => ?_) _
  simp only [padded, full0, List.mem_append, List.mem_singleton, List.mem_replicate, strNums, List.mem_map] at hx
  rcases hx with (⟨b, _, rfl⟩ | rfl) | ⟨_, rfl⟩
  · have := b.toNat_lt; omega
  · omega
  · omega
theorem lenByte_eq {n j : Nat} (hn : n ≤ 1099511627776) (hj : j < 8) : lenByteR n j = lenByte n j := by
  have e1 : IntKind.u64.wrap (n : Int) = n := IntWalk.u64_in _ (by omega)
  have e2 : IntKind.u64.wrap ((n : Int) * 8) = (n : Int) * 8 := IntWalk.u64_in _ (by omega)
  have e3 : IntKind.i64.wrap ((n : Int) * 8) = (n : Int) * 8 := IntWalk.i64_in _ (by omega)
  unfold lenByteR lenByte
  rw [e1, e2, e3]
  by_cases h : 7 < j
  · rw [show Nat.blt 7 j = true by rw [Nat.blt_eq]; exact h, cond_true]
    have e : shrI .u64 ((n : Int) * 8) (8 * j) = 0 := by
      unfold shrI
      rw [Nat.min_eq_right (by show 64 ≤ 8 * j; omega)]
      exact Int.fdiv_eq_zero_of_lt (by omega) (by show (n : Int) * 8 < 2 ^ 64; omega)
    rw [e]; rfl
  · rw [show Nat.blt 7 j = false by rw [Bool.eq_false_iff]; intro e; rw [Nat.blt_eq] at e; exact h e, cond_false]
    rfl
theorem lenApp_eq {n : Nat} (hn : n ≤ 1099511627776) (L : List Int) : ∀ j, j ≤ 8 → lenAppR n L j = lenApp n L j
  | 0, _ => rfl
  | j + 1, h => by
    show lenAppR n L j ++ [lenByteR n (8 - 1 - j)] = lenApp n L j ++ [lenByte n (8 - 1 - j)]
    rw [lenApp_eq hn L j (by omega), lenByte_eq hn (by omega)]
theorem full_eq {data : ByteArray} (h : data.size ≤ 1099511627776) : fullR data = fullB data := lenApp_eq h _ 8 (Nat.le_refl _)
/-! ### A block's words -/
theorem blk_at {F : List Int} (hF : Bytes F) {m i : Nat} (hm : 64 * m + 64 ≤ F.length) (hi : i < 64) : sbyte (blk F m) ((i : Nat) : Int) = F.getD (64 * m + i) 0 := by
  unfold blk
  have e : ((F.drop (64 * m)).take 64).getD i 0 = F.getD (64 * m + i) 0 := by
    simp only [List.getD_eq_getElem?_getD, List.getElem?_take_of_lt hi, List.getElem?_drop]
  rw [sbyte_strOfNums (by simp; omega) (by rw [e]; exact hF.at_ _), e]
def byF (F : List Int) (m t i : Nat) : Nat := (F.getD (64 * m + (4 * t + i)) 0).toNat
theorem byF_le {F : List Int} (hF : Bytes F) (m t i : Nat) : byF F m t i ≤ 255 := by have := hF.at_ (64 * m + (4 * t + i)); unfold byF; omega
theorem wdP_hz {F : List Int} (hF : Bytes F) {m t : Nat} (hm : 64 * m + 64 ≤ F.length) (ht : t < 16) : wdP (blk F m) t = (hz (byF F m t) 4 : Int) := by
  refine wordB_hz (byF_le hF m t) (fun i hi => ?_) 4 (Nat.le_refl _)
  rw [blk_at hF hm (by omega)]
  have := hF.at_ (64 * m + (4 * t + i))
  unfold byF
  omega
theorem atS {F : List Int} (hF : Bytes F) {m t j : Nat} (hm : 64 * m ≤ 2199023255552) (ht : t < 16) (hj : j < 4) : W.wrap (F.getD (pS ((64 * m : Nat) : Int) (t : Int) j).toNat 0) = (byF F m t j : Int) := by
  rw [pS_eq hm ht hj, Int.toNat_natCast, show 64 * m + 4 * t + j = 64 * m + (4 * t + j) by omega, wrapW]
  have := hF.at_ (64 * m + (4 * t + j))
  unfold byF
  omega
theorem wdS_hz {F : List Int} (hF : Bytes F) {m t : Nat} (hs : 64 * m ≤ 2199023255552) (ht : t < 16) : wdS F ((64 * m : Nat) : Int) (t : Int) = (hz (byF F m t) 4 : Int) := by
  have f0 := byF_le hF m t 0
  have f1 := byF_le hF m t 1
  have f2 := byF_le hF m t 2
  have f3 := byF_le hF m t 3
  have e0 : bS F ((64 * m : Nat) : Int) (t : Int) 0 = _ := atS hF hs ht (j := 0) (by omega)
  have e1 : bS F ((64 * m : Nat) : Int) (t : Int) 1 = _ := atS hF hs ht (j := 1) (by omega)
  have e2 : bS F ((64 * m : Nat) : Int) (t : Int) 2 = _ := atS hF hs ht (j := 2) (by omega)
  have e3 : bS F ((64 * m : Nat) : Int) (t : Int) 3 = _ := atS hF hs ht (j := 3) (by omega)
  unfold wdS
  rw [e0, e1, e2, e3]
  have key : ∀ x0 x1 x2 x3 : Nat, x0 ≤ 255 → x1 ≤ 255 → x2 ≤ 255 → x3 ≤ 255 → orI W (orI W (orI W (shlI W (x0 : Int) 24) (shlI W (x1 : Int) 16)) (shlI W (x2 : Int) 8)) (x3 : Int) = ((256 * (256 * (256 * x0 + x1) + x2) + x3 : Nat) : Int) := by
    intro x0 x1 x2 x3 h0 h1 h2 h3
    rw [shl_nat (by omega) (by omega), shl_nat (by omega) (by omega), shl_nat (by omega) (by omega), or_sum 24 (by omega) (by omega)]
    rw [show 2 ^ 24 * x0 + 2 ^ 16 * x1 = 2 ^ 16 * (2 ^ 8 * x0 + x1) by omega, or_sum 16 (by omega) (by omega)]
    rw [show 2 ^ 16 * (2 ^ 8 * x0 + x1) + 2 ^ 8 * x2 = 2 ^ 8 * (2 ^ 16 * x0 + 2 ^ 8 * x1 + x2) by omega, or_sum 8 (by omega) (by omega)]
    congr 1
    omega
  rw [key _ _ _ _ f0 f1 f2 f3]
  simp only [hz]
  congr 1
  omega
theorem wd_eq {F : List Int} (hF : Bytes F) {m t : Nat} (hm : 64 * m + 64 ≤ F.length) (hs : F.length ≤ 2199023255552) (ht : t < 16) : wdS F ((64 * m : Nat) : Int) (t : Int) = wdP (blk F m) t := by
  rw [wdS_hz hF (by omega) ht, wdP_hz hF hm ht]
theorem rev_at {L : List Int} {j : Nat} (h : j < L.length) : L.reverse.getD j 0 = L.getD (L.length - 1 - j) 0 := by
  simp only [List.getD_eq_getElem?_getD, List.getElem?_reverse h]
theorem wR_rev {F : List Int} (hF : Bytes F) {m : Nat} (hm : 64 * m + 64 ≤ F.length) (hs : F.length ≤ 2199023255552) : ∀ t, t ≤ 80 → wR (wdP (blk F m)) t = (wF F ((64 * m : Nat) : Int) t).reverse
  | 0, _ => rfl
  | t + 1, h => by
    have ih := wR_rev hF hm hs t (by omega)
    have hl := wF_length F ((64 * m : Nat) : Int) t
    rw [wF, List.reverse_append, ← ih]
    show (bif Nat.blt t 16 then _ else _) :: _ = (bif Nat.blt t 16 then _ else _) :: _
    congr 1
    by_cases h16 : t < 16
    · rw [show Nat.blt t 16 = true by rw [Nat.blt_eq]; exact h16, cond_true, cond_true, wd_eq hF hm hs h16]
    · rw [show Nat.blt t 16 = false by rw [Bool.eq_false_iff]; intro e; rw [Nat.blt_eq] at e; exact h16 e, cond_false, cond_false, ih]
      have e : ∀ d : Nat, 0 < d → d ≤ 16 → (wF F ((64 * m : Nat) : Int) t).reverse.getD (d - 1) 0 = (wF F ((64 * m : Nat) : Int) t).getD (ix (t : Int) (d : Int)).toNat 0 := by
        intro d h0 h1
        rw [rev_at (by omega), hl, ix_eq (by omega) (by omega), Int.toNat_natCast]
        congr 1
        omega
      have e16 := e 16 (by omega) (by omega)
      have e7 := e 7 (by omega) (by omega)
      have e15 := e 15 (by omega) (by omega)
      have e2 := e 2 (by omega) (by omega)
      unfold newS
      rw [show (16 : Nat) - 1 = 15 from rfl] at e16
      rw [show (7 : Nat) - 1 = 6 from rfl] at e7
      rw [show (15 : Nat) - 1 = 14 from rfl] at e15
      rw [show (2 : Nat) - 1 = 1 from rfl] at e2
      rw [e16, e7, e15, e2]
      rfl
theorem wF_keep (F : List Int) (a : Int) {t : Nat} : ∀ {n : Nat}, t < n → (wF F a n).getD t 0 = (wF F a (t + 1)).getD t 0
  | 0, h => by omega
  | n + 1, h => by
    by_cases e : t = n
    · subst e; rfl
    · rw [← wF_keep F a (n := n) (by omega)]
      have hl := wF_length F a n
      show (wF F a n ++ [_]).getD t 0 = _
      simp only [List.getD_eq_getElem?_getD]
      rw [List.getElem?_append_left (by omega)]
theorem wT_eq {F : List Int} (hF : Bytes F) {m : Nat} (hm : 64 * m + 64 ≤ F.length) (hs : F.length ≤ 2199023255552) {t : Nat} (ht : t < 64) : wT (wdP (blk F m)) t = (wF F ((64 * m : Nat) : Int) 64).getD t 0 := by
  have hl := wF_length F ((64 * m : Nat) : Int) (t + 1)
  rw [wF_keep F _ ht, wT, wR_rev hF hm hs (t + 1) (by omega), rev_at (by omega), hl]
  rfl
theorem kS_eq {t : Nat} (ht : t < 80) : kS (t : Int) = kO t := by
  unfold kS kO
  rw [Nat.zero_add, Int.toNat_natCast, toLen_getD ht]
theorem vF_eq {F : List Int} (hF : Bytes F) {m : Nat} (hm : 64 * m + 64 ≤ F.length) (hs : F.length ≤ 2199023255552) (h : List Int) : ∀ n, n ≤ 64 → vF h (wF F ((64 * m : Nat) : Int) 64) n = rounds (wdP (blk F m)) h n
  | 0, _ => rfl
  | n + 1, hn => by
    show rnd (kS n) _ _ = rnd (kO n) _ _
    rw [kS_eq (by omega), ← wT_eq hF hm hs (by omega), vF_eq hF hm hs h n (by omega)]
theorem prF_eq {F : List Int} (hF : Bytes F) {m : Nat} (hm : 64 * m + 64 ≤ F.length) (hs : F.length ≤ 2199023255552) (h : List Int) : prF F ((64 * m : Nat) : Int) h = pressW (wdP (blk F m)) h := by
  unfold prF pressW
  rw [vF_eq hF hm hs h 64 (Nat.le_refl _)]
theorem toLen_self {n : Nat} {L : List Int} (h : L.length = n) : toLen n L = L := by
  apply List.ext_getElem
  · rw [toLen_length, h]
  · intro i h1 h2
    simp [toLen, h2]
theorem hN_length (F : List Int) : ∀ n, (hN F n).length = 8
  | 0 => by kernel_rfl
  | n + 1 => by simp [hN, pressW]
theorem hF_eq {F : List Int} (hF : Bytes F) (hs : F.length ≤ 2199023255552) : ∀ n, 64 * n ≤ F.length → hF_ F n = hN F n
  | 0, _ => rfl
  | n + 1, h => by
    show prF F ((64 * n : Nat) : Int) (hF_ F n) = pressW (wdP (blk F n)) (toLen 8 (hN F n))
    rw [toLen_self (hN_length F n), hF_eq hF hs n (by omega), prF_eq hF (by omega) hs]
theorem out_eq (h : List Int) : outR h = outL h := by
  unfold outR outL
  refine List.map_congr_left fun j hj => ?_
  by_cases e : j % 4 = 3
  · rw [show Nat.beq (j % 4) 3 = true by rw [e]; rfl, cond_true, e]
    show _ = IntKind.u8.wrap (Int.fdiv _ 1)
    rw [Int.fdiv_one]
  · rw [show Nat.beq (j % 4) 3 = false by rw [Bool.eq_false_iff]; intro h; exact e (Nat.eq_of_beq_eq_true h), cond_false]
theorem sm_eq {data : ByteArray} (h : data.size ≤ 1099511627776) : smS data = dgS data := by
  have hF := fullB_length data
  have hs := fullB_le data
  unfold smS dgS smL dgL
  rw [full_eq h, out_eq, hF_eq (full_bytes data) (by omega) _ (by omega)]
/-! ### The program's sum -/
def ctSum : Ct := shCt 25 [.str] fun ds => ([(dS ds 0).size ≤ 1099511627776], .sv (.one (.strn (dgS (dS ds 0)) 32 (dgS_size _))))
theorem ctSum_ok : CtOk Try.prog ctSum :=
  oneCt_ok (cts := [ctKind, ctDigest]) (fz := []) (fuel := 10) mix (allOk ⟨ctKind_ok, ctDigest_ok, trivial⟩) Try.func25 (by kernel_rfl) (by kernel_rfl) (fun _ => rfl) fun ds h hn => match ds, h, hn with
    | [.S data], h, hn => ⟨_, viewArgs_is h, [data.size ≤ 1099511627776], by kernel_rfl, hn⟩
/-- The reference's, by the digest. -/
def ctRef : Ct := shCt 26 [.str] fun ds => ([(dS ds 0).size ≤ 1099511627776], .sv (.one (.strn (dgS (dS ds 0)) 32 (dgS_size _))))
end Go.Proofs.Ytihmhnfjdkkbgaa.Sh32
