/- The walk of the package mac and of cressetref02: labels; whether two texts are the same. -/
import Derived.Test.YtihmhnfjdkkbgaaMcc
noncomputable section
namespace Go.Proofs.Ytihmhnfjdkkbgaa
open Go Go.RowKit RX Sh
set_option linter.unusedSimpArgs false
set_option maxRecDepth 10000000
theorem strOfNums_app (L M : List Int) : strOfNums L ++ strOfNums M = strOfNums (L ++ M) := by
  unfold strOfNums
  apply ByteArray.ext
  simp
def lenB (s : ByteArray) : ByteArray := strOfNums [IntKind.u8.wrap (s.size : Int)]
theorem lenB_size (s : ByteArray) : (lenB s).size = 1 := by unfold lenB; rw [strOfNums_size]; rfl
def ctCounted : Ct := shCt 72 [.str] fun ds => ([(dS ds 0).size ≤ 9223372036854775806], .sv (.one (.str (lenB (dS ds 0) ++ dS ds 0))))
theorem ctCounted_ok : CtOk Try.prog ctCounted :=
  oneCt_ok (cts := []) (fz := []) (fuel := 10) mix (by simp) Try.func72 (by kernel_rfl) (by kernel_rfl) (fun _ => rfl) fun ds h hn => match ds, h, hn with
    | [.S s], h, hn => ⟨_, viewArgs_is h, [(lenB s).size + s.size ≤ 9223372036854775807], by kernel_rfl, by
      have h1 : s.size ≤ 9223372036854775806 := hn _ (List.mem_cons_self ..)
      intro p hp
      rw [List.mem_singleton] at hp
      subst hp
      rw [lenB_size]
      omega⟩
def tls : ByteArray := ⟨#[116, 108, 115, 49, 51, 32]⟩
def hl (n : Int) : ByteArray := strOfNums [IntKind.u8.wrap (n.fdiv (2 ^ min (Int.toNat 8) IntKind.i64.bits)), IntKind.u8.wrap n]
def infoL (l x : ByteArray) (n : Int) : ByteArray := hl n ++ (lenB (tls ++ l) ++ (tls ++ l)) ++ (lenB x ++ x)
def hlR (l : ByteArray) (n : Int) : ByteArray := strOfNums [IntKind.u8.wrap (IntKind.i64.wrap (n.tdiv 256)), IntKind.u8.wrap (n.tmod 256), IntKind.u8.wrap ((tls ++ l).size : Int)]
def infoR (l x : ByteArray) (n : Int) : ByteArray := hlR l n ++ (tls ++ l) ++ lenB x ++ x
theorem info_eq (l x : ByteArray) {n : Int} (h0 : 0 ≤ n) (h1 : n ≤ 8160) : infoR l x n = infoL l x n := by
  have e1 : IntKind.i64.wrap (n.tdiv 256) = n.fdiv (2 ^ min (Int.toNat 8) IntKind.i64.bits) := by
    rw [show (2 : Int) ^ min (Int.toNat 8) IntKind.i64.bits = 256 by rfl, Int.tdiv_eq_ediv_of_nonneg h0, Int.fdiv_eq_ediv_of_nonneg _ (by decide), IntWalk.i64_in _ (by omega)]
  have e2 : IntKind.u8.wrap (n.tmod 256) = IntKind.u8.wrap n := by
    rw [Int.tmod_eq_emod_of_nonneg h0, IntKind.wrap_u8, IntKind.wrap_u8]
    omega
  have e3 : hlR l n = hl n ++ lenB (tls ++ l) := by
    unfold hlR hl lenB
    rw [strOfNums_app, e1, e2]
    rfl
  unfold infoR infoL
  rw [e3]
  simp only [ByteArray.append_assoc]
theorem infoL_size (l x : ByteArray) (n : Int) : (infoL l x n).size = 10 + l.size + x.size := by
  have e : (hl n).size = 2 := by unfold hl; rw [strOfNums_size]; rfl
  have e2 : tls.size = 6 := rfl
  unfold infoL
  simp only [ByteArray.size_append, lenB_size, e, e2]
  omega
def lblBad (l x : ByteArray) (n : Int) : Bool := decide ((l.size : Int) > 249) || (decide ((x.size : Int) > 255) || decide (n > 8160))
def lblS (k l x : ByteArray) (n : Int) : ByteArray := bif decide (n < 0) then .empty else bif lblBad l x n then .empty else expS k (infoL l x n) n
def lblE (l x : ByteArray) (n : Int) : Int := bif decide (n < 0) then 1 else bif lblBad l x n then 13 else 0
def lblT (k l x : ByteArray) (n : Int) : TV := .tup [.one (.str (lblS k l x n)), .one (.int .i64 (lblE l x n))]
def lblTree (l x : ByteArray) (n : Int) (t : TT) : TT := .br (decide (n < 0)) argT (.br (decide ((l.size : Int) > 249)) bigT (.br (decide ((x.size : Int) > 255)) bigT (.br (decide (n > 8160)) bigT t)))
theorem lbl_big {k l x : ByteArray} {n : Int} (h0 : ¬ n < 0) (h : lblBad l x n = true) : bigT.wp (fun y => y = (lblT k l x n).norm) := by
  unfold lblT lblS lblE
  rw [decide_eq_false h0, h]
  rfl
theorem lbl_wp {k l x : ByteArray} {n : Int} {t : TT} (h : 0 ≤ n → l.size ≤ 249 → x.size ≤ 255 → n ≤ 8160 → t.wp (fun y => y = (expT k (infoL l x n) n).norm)) : (lblTree l x n t).wp (fun y => y = (lblT k l x n).norm) := by
  unfold lblTree
  by_cases c0 : n < 0
  · refine TT.br_t (decide_eq_true c0) ?_
    unfold lblT lblS lblE
    rw [decide_eq_true c0]
    rfl
  refine TT.br_f (decide_eq_false c0) ?_
  by_cases c1 : (l.size : Int) > 249
  · exact TT.br_t (decide_eq_true c1) (lbl_big c0 (by unfold lblBad; rw [decide_eq_true c1]; rfl))
  refine TT.br_f (decide_eq_false c1) ?_
  by_cases c2 : (x.size : Int) > 255
  · exact TT.br_t (decide_eq_true c2) (lbl_big c0 (by unfold lblBad; rw [decide_eq_true c2, Bool.true_or, Bool.or_true]))
  refine TT.br_f (decide_eq_false c2) ?_
  by_cases c3 : n > 8160
  · exact TT.br_t (decide_eq_true c3) (lbl_big c0 (by unfold lblBad; rw [decide_eq_true c3, Bool.or_true, Bool.or_true]))
  refine TT.br_f (decide_eq_false c3) ?_
  have e : lblT k l x n = expT k (infoL l x n) n := by
    unfold lblT lblS lblE lblBad expT expE
    rw [decide_eq_false c0, decide_eq_false c1, decide_eq_false c2, decide_eq_false c3]
    rfl
  rw [e]
  exact h (by omega) (by omega) (by omega) (by omega)
def lblOut (ds : List D) : List Prop × TV := ([(dS ds 0).size ≤ 1099511627776], lblT (dS ds 0) (dS ds 1) (dS ds 2) (dI ds 3))
def needsLb (k l x : ByteArray) (n : Int) : List Prop := [tls.size + l.size ≤ 9223372036854775807, (tls ++ l).size ≤ 9223372036854775806, (hl n).size + (lenB (tls ++ l) ++ (tls ++ l)).size ≤ 9223372036854775807, x.size ≤ 9223372036854775806,
  (hl n ++ (lenB (tls ++ l) ++ (tls ++ l))).size + (lenB x ++ x).size ≤ 9223372036854775807, k.size ≤ 1099511627776, (infoL l x n).size ≤ 274877906944]
theorem needsLb_ok {k l x : ByteArray} {n : Int} (hk : k.size ≤ 1099511627776) (hl' : l.size ≤ 249) (hx : x.size ≤ 255) : ∀ p ∈ needsLb k l x n, p := by
  intro p hp
  have e : (hl n).size = 2 := by unfold hl; rw [strOfNums_size]; rfl
  have e2 : tls.size = 6 := rfl
  simp only [needsLb, List.mem_cons, List.not_mem_nil, or_false, ByteArray.size_append, lenB_size, infoL_size, e, e2] at hp
  rcases hp with rfl | rfl | rfl | rfl | rfl | rfl | rfl <;> omega
def ctLabel : Ct := shCt 40 [.str, .str, .str, .num .i64] lblOut
theorem ctLabel_ok : CtOk Try.prog ctLabel :=
  runCtL_ok (cts := [ctCounted, ctExpand]) (fz := []) (fuel := 10) mix (allOk ⟨ctCounted_ok, ctExpand_ok, trivial⟩) Try.func40 (c := bodyOf Try.f40) (by kernel_rfl) (by kernel_rfl) (fun _ => rfl) fun ds h hn => match ds, h, hn with
    | [.S k, .S l, .S x, .I n], h, hn => by
      have hk : k.size ≤ 1099511627776 := hn _ (List.mem_cons_self ..)
      refine ⟨[], (fun _ _ _ hg => by cases hg), _, viewArgs_is h, ?_⟩
      have hr : runC Try.prog [ctCounted, ctExpand] [] [] 10 Try.f40 (bodyOf Try.f40) (viewArgs [.str, .str, .str, .num .i64] [.S k, .S l, .S x, .I n] h) =
          lblTree l x n (needT (needsLb k l x n) (.leaf (expT k (infoL l x n) n))) := by kernel_rfl
      rw [hr]
      exact lbl_wp fun _ h1 h2 _ => needT_wp (needsLb_ok hk h1 h2) rfl
def needsLbR (k l x : ByteArray) (n : Int) : List Prop := [tls.size + l.size ≤ 9223372036854775807, (hlR l n).size + (tls ++ l).size ≤ 9223372036854775807, (hlR l n ++ (tls ++ l)).size + (lenB x).size ≤ 9223372036854775807, (hlR l n ++ (tls ++ l) ++ lenB x).size + x.size ≤ 9223372036854775807,
  k.size ≤ 1099511627776, (infoR l x n).size ≤ 274877906944]
theorem needsLbR_ok {k l x : ByteArray} {n : Int} (hk : k.size ≤ 1099511627776) (hl' : l.size ≤ 249) (hx : x.size ≤ 255) : ∀ p ∈ needsLbR k l x n, p := by
  intro p hp
  have e : (hlR l n).size = 3 := by unfold hlR; rw [strOfNums_size]; rfl
  have e2 : tls.size = 6 := rfl
  simp only [needsLbR, infoR, List.mem_cons, List.not_mem_nil, or_false, ByteArray.size_append, lenB_size, e, e2] at hp
  rcases hp with rfl | rfl | rfl | rfl | rfl | rfl <;> omega
def ctLabelR : Ct := shCt 41 [.str, .str, .str, .num .i64] lblOut
theorem ctLabelR_ok : CtOk Try.prog ctLabelR :=
  runCtL_ok (cts := [ctExpandR]) (fz := []) (fuel := 10) mix (allOk ⟨ctExpandR_ok, trivial⟩) Try.func41 (c := bodyOf Try.f41) (by kernel_rfl) (by kernel_rfl) (fun _ => rfl) fun ds h hn => match ds, h, hn with
    | [.S k, .S l, .S x, .I n], h, hn => by
      have hk : k.size ≤ 1099511627776 := hn _ (List.mem_cons_self ..)
      refine ⟨[], (fun _ _ _ hg => by cases hg), _, viewArgs_is h, ?_⟩
      have hr : runC Try.prog [ctExpandR] [] [] 10 Try.f41 (bodyOf Try.f41) (viewArgs [.str, .str, .str, .num .i64] [.S k, .S l, .S x, .I n] h) =
          lblTree l x n (needT (needsLbR k l x n) (.leaf (expT k (infoR l x n) n))) := by kernel_rfl
      rw [hr]
      refine lbl_wp fun h0 h1 h2 h3 => needT_wp (needsLbR_ok hk h1 h2) ?_
      rw [info_eq l x h0 h3]
      rfl
/-! ### Whether two texts are the same -/
def oddS (a b : ByteArray) : Nat → Int
  | 0 => 0
  | j + 1 => orI .u8 (oddS a b j) (xorI .u8 (sbyte a j) (sbyte b j))
def TSm (a b : ByteArray) (o m i : Int) : St := ⟨tmL 29 [(0, .sv (.one (.str a))), (1, .sv (.one (.str b))), (5, .sv (.one (.int .u8 o))), (13, .sv (.one (.int .i64 m))), (14, .sv (.one (.int .i64 i)))], []⟩
def shSm (st : St) : St := cut 0 (mask [0, 1, 5, 13, 14] [0, 1, 5, 13, 14] st)
theorem hwSm : Weak NoS shSm := Weak.comp (f := mask [0, 1, 5, 13, 14] [0, 1, 5, 13, 14]) (g := cut 0) (mask_weak NoS [0, 1, 5, 13, 14] [0, 1, 5, 13, 14]) (cut_weak fun S h m k hm => by have := h m; rw [this] at hm; cases hm)
theorem roundSm (a b : ByteArray) (o m i : Int) : (exec Try.prog [] [] [] 0 (loopAt (bodyOf Try.f42) 5) (TSm a b o m i)).shape shSm shSm =
    .br (decide (i < m)) (needs [0 ≤ i, i < a.size, 0 ≤ i, i < b.size] (.leaf .normal (TSm a b (orI .u8 o (xorI .u8 (sbyte a i) (sbyte b i))) m (IntKind.i64.wrap (i + 1))))) (.leaf (.exit 0) (TSm a b o m i)) := by kernel_rfl
def endSm (a b : ByteArray) : Tree := .leaf (.exit 0) (TSm a b (oddS a b a.size) a.size a.size)
theorem loopSm (a b : ByteArray) (ha : a.size ≤ 9223372036854775807) (hab : a.size = b.size) : LpOk Try.prog (loopAt (bodyOf Try.f42) 5) (fun st => .need (shSm st = TSm a b 0 a.size 0) (endSm a b)) := by
  refine loop_tpl (P := Try.prog) (cts := []) (lps := []) (fz := []) (fuel := 0) (sh := shSm) (shx := shSm) mix (by simp) (.inl rfl) (fun _ _ f hf => by cases hf)
    hwSm hwSm (fun (j : Nat) => TSm a b (oddS a b j) a.size j) (fun j => j ≤ a.size) (fun (j : Nat) => a.size - j) (fun _ => endSm a b) ?_ (a0 := 0) (Nat.zero_le _)
  intro j hj K hK
  rw [roundSm]
  refine ⟨fun hb => ?_, fun hb => ?_⟩
  · have hlt : j < a.size := by
      have := of_decide_eq_true hb
      omega
    refine needs_wpE (fun p hp => ?_) ⟨j + 1, ?_, hlt, ?_, hK⟩
    · simp only [List.mem_cons, List.not_mem_nil, or_false] at hp
      rcases hp with rfl | rfl | rfl | rfl <;> omega
    · rw [IntWalk.i64_in _ (by omega)]
      rfl
    · show a.size - (j + 1) < a.size - j
      omega
  · have hge : j = a.size := by
      have := of_decide_eq_false hb
      omega
    subst hge
    exact hK
theorem onlySm : ((loopsOf (bodyOf Try.f42)).filter fun b => codeKey b == 5) = [loopAt (bodyOf Try.f42) 5] := by kernel_rfl
def lpsSm (a b : ByteArray) : List (Nat × (St → Tree)) := [(5, fun st => .need (shSm st = TSm a b 0 a.size 0) (endSm a b))]
theorem or_xor0 (o x y : Int) (ho : 0 ≤ o ∧ o ≤ 255) (hx : 0 ≤ x ∧ x ≤ 255) (hy : 0 ≤ y ∧ y ≤ 255) : (0 ≤ orI .u8 o (xorI .u8 x y) ∧ orI .u8 o (xorI .u8 x y) ≤ 255) ∧ (orI .u8 o (xorI .u8 x y) = 0 ↔ o = 0 ∧ x = y) := by
  obtain ⟨O, rfl⟩ := Int.eq_ofNat_of_zero_le ho.1
  obtain ⟨X, rfl⟩ := Int.eq_ofNat_of_zero_le hx.1
  obtain ⟨Y, rfl⟩ := Int.eq_ofNat_of_zero_le hy.1
  have e1 : xorI .u8 (X : Int) (Y : Int) = ((X ^^^ Y : Nat) : Int) := by
    have hlt : X ^^^ Y < 2 ^ 8 := Nat.xor_lt_two_pow (by omega) (by omega)
    unfold xorI bits
    simp only [← BitVec.ofInt_natCast]
    rw [BitVec.ofInt_natCast, BitVec.ofInt_natCast]
    rw [IntKind.wrap_u8, BitVec.toNat_xor, BitVec.toNat_ofNat, BitVec.toNat_ofNat, Nat.mod_eq_of_lt (by show X < 256; omega), Nat.mod_eq_of_lt (by show Y < 256; omega)]
    omega
  have hlt : X ^^^ Y < 2 ^ 8 := Nat.xor_lt_two_pow (by omega) (by omega)
  have e2 : orI .u8 (O : Int) ((X ^^^ Y : Nat) : Int) = ((O ||| (X ^^^ Y) : Nat) : Int) := bits_or_u8 O (X ^^^ Y) (by omega) (by omega)
  rw [e1, e2]
  have hor : O ||| (X ^^^ Y) < 2 ^ 8 := Nat.or_lt_two_pow (by omega) hlt
  refine ⟨by omega, ?_⟩
  have e3 : ((O ||| (X ^^^ Y) : Nat) : Int) = 0 ↔ O ||| (X ^^^ Y) = 0 := by omega
  have e4 : X ^^^ Y = 0 ↔ X = Y := by
    constructor
    · intro h
      have h' : X ^^^ (X ^^^ Y) = X ^^^ 0 := congrArg (X ^^^ ·) h
      rw [← Nat.xor_assoc, Nat.xor_self, Nat.zero_xor, Nat.xor_zero] at h'
      exact h'.symm
    · intro h
      rw [h, Nat.xor_self]
  rw [e3, Nat.or_eq_zero_iff, e4]
  omega
theorem oddS_in (a b : ByteArray) : ∀ j, (0 ≤ oddS a b j ∧ oddS a b j ≤ 255) ∧ (oddS a b j = 0 ↔ ∀ i : Nat, i < j → sbyte a i = sbyte b i)
  | 0 => ⟨⟨Int.le_refl _, (by decide : (0 : Int) ≤ 255)⟩, fun _ i hi => absurd hi (Nat.not_lt_zero i), fun _ => rfl⟩
  | j + 1 => by
    obtain ⟨h1, h2⟩ := oddS_in a b j
    obtain ⟨h3, h4⟩ := or_xor0 (oddS a b j) (sbyte a j) (sbyte b j) h1 (sbyte_le a j) (sbyte_le b j)
    refine ⟨h3, ?_⟩
    show orI .u8 (oddS a b j) (xorI .u8 (sbyte a j) (sbyte b j)) = 0 ↔ _
    rw [h4, h2]
    constructor
    · rintro ⟨h5, h6⟩ i hi
      rcases Nat.lt_succ_iff_lt_or_eq.1 hi with h | rfl
      · exact h5 i h
      · exact h6
    · intro h
      exact ⟨fun i hi => h i (by omega), h j (by omega)⟩
theorem odd_same {a b : ByteArray} (h : a.size = b.size) : (oddS a b a.size == 0) = (a.toList == b.toList) := by
  rw [toList_beq]
  have h2 := (oddS_in a b a.size).2
  by_cases c : a = b
  · rw [decide_eq_true c, beq_iff_eq, h2]
    intro i _
    rw [c]
  · rw [decide_eq_false c]
    refine beq_eq_false_iff_ne.2 fun e => c (str_ext h (h2.1 e))
def needsSm (a b : ByteArray) : List Prop := [TSm a b 0 a.size 0 = TSm a b 0 a.size 0]
def ctSame : Ct := shCt 42 [.str, .str] fun ds => ([(dS ds 0).size ≤ 9223372036854775807], .sv (.one (.bool ((dS ds 0).toList == (dS ds 1).toList))))
theorem ctSame_ok : CtOk Try.prog ctSame :=
  runCtL_ok (cts := []) (fz := []) (fuel := 10) mix (by simp) Try.func42 (c := bodyOf Try.f42) (by kernel_rfl) (by kernel_rfl) (fun _ => rfl) fun ds h hn => match ds, h, hn with
    | [.S a, .S b], h, hn => by
      have ha : a.size ≤ 9223372036854775807 := hn _ (List.mem_cons_self ..)
      by_cases c : a.size = b.size
      · refine ⟨lpsSm a b, lpsOk (c := bodyOf Try.f42) (lps := lpsSm a b) ⟨fun body hb hk' => ?_, trivial⟩, _, viewArgs_is h, ?_⟩
        · rw [loopAt_is onlySm hb hk']
          exact loopSm a b ha c
        · have hr : runC Try.prog [] (lpsSm a b) [] 10 Try.f42 (bodyOf Try.f42) (viewArgs [.str, .str] [.S a, .S b] h) =
            .br ((a.size : Int) != b.size) (.leaf (.sv (.one (.bool false)))) (needT (needsSm a b) (.leaf (.sv (.one (.bool (oddS a b a.size == 0)))))) := by kernel_rfl
          rw [hr, odd_same c]
          refine TT.br_f (by rw [c]; exact bne_self_eq_false _) (needT_wp (fun p hp => ?_) rfl)
          rw [needsSm, List.mem_singleton] at hp
          subst hp
          rfl
      · refine ⟨lpStuck (bodyOf Try.f42), lpStuck_ok, _, viewArgs_is h, ?_⟩
        have hr : runC Try.prog [] (lpStuck (bodyOf Try.f42)) [] 10 Try.f42 (bodyOf Try.f42) (viewArgs [.str, .str] [.S a, .S b] h) =
            .br ((a.size : Int) != b.size) (.leaf (.sv (.one (.bool false)))) .stuck := by kernel_rfl
        rw [hr]
        refine TT.br_t (by simpa [bne_iff_ne, Int.ofNat_inj] using c) ?_
        have e : (a.toList == b.toList) = false := by
          rw [toList_beq]
          exact decide_eq_false fun e => c (by rw [e])
        show _ = (TV.sv (.one (.bool (a.toList == b.toList)))).norm
        rw [e]
        rfl
end Go.Proofs.Ytihmhnfjdkkbgaa
