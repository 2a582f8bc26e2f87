/- The walk of the package cressetref01: Sum512 as a whole. -/
import Derived.Test.YtihmhnfjdkkbgaaSs64
noncomputable section
namespace Go.Proofs.Ytihmhnfjdkkbgaa.Sh64
open Go Go.RowKit RX Sh
set_option linter.unusedSimpArgs false
set_option maxRecDepth 1000000
/-! ### The words of a block -/
def wF (F : List Int) (a : Int) : Nat → List Int
  | 0 => []
  | n + 1 => wF F a n ++ [bif Nat.blt n 16 then wdS F a n else newS (wF F a n) n]
theorem wF_length (F : List Int) (a : Int) : ∀ n, (wF F a n).length = n
  | 0 => rfl
  | n + 1 => by simp [wF, wF_length F a n]
def IW (F : List Int) (a : Int) (x : Int × List Int) : Prop := ∃ n : Nat, n ≤ 80 ∧ x.1 = (n : Int) ∧ x.2 = wF F a n
theorem pS_eq {m t j : Nat} (hm : m ≤ 2199023255552) (ht : t < 16) (hj : j < 8) : pS (m : Int) (t : Int) j = ((m + 8 * t + j : Nat) : Int) := by
  unfold pS
  have e0 : IntKind.i64.wrap (8 * (t : Int)) = 8 * t := IntWalk.i64_in _ (by omega)
  have e1 : IntKind.i64.wrap ((m : Int) + 8 * t) = (m : Int) + 8 * t := IntWalk.i64_in _ (by omega)
  rw [e0, e1, IntWalk.i64_in _ (by omega)]
  omega
theorem needsB_ok {F : List Int} {m t : Nat} (hm : m + 128 ≤ F.length) (hs : F.length ≤ 2199023255552) (ht : t < 16) : ∀ p ∈ needsB F (m : Int) (t : Int), p := by
  intro p hp
  obtain ⟨j, hj, hp⟩ := List.mem_flatMap.1 hp
  rw [List.mem_range] at hj
  have e := pS_eq (m := m) (t := t) (j := j) (by omega) ht hj
  rw [e] at hp
  simp only [List.mem_cons, List.not_mem_nil, or_false] at hp
  rcases hp with rfl | rfl | rfl <;> omega
theorem ix_eq {t d : Nat} (hd : d ≤ t) (ht : t < 80) : ix (t : Int) (d : Int) = ((t - d : Nat) : Int) := by
  unfold ix
  rw [IntWalk.i64_in _ (by omega)]
  omega
theorem needsI_ok {L : List Int} {t : Nat} (hL : L.length = t) (ht : t < 80) (h16 : 16 ≤ t) : ∀ p ∈ needsI L (t : Int) [15, 15, 15, 2, 2, 2, 16, 7], p := by
  intro p hp
  obtain ⟨d, hd, hp⟩ := List.mem_flatMap.1 hp
  obtain ⟨d, rfl, h0, h1⟩ : ∃ e : Nat, d = (e : Int) ∧ 0 < e ∧ e ≤ 16 := by
    simp only [List.mem_cons, List.not_mem_nil, or_false] at hd
    exact ⟨d.toNat, by omega, by omega, by omega⟩
  rw [ix_eq (by omega) ht] at hp
  simp only [List.mem_cons, List.not_mem_nil, or_false] at hp
  rcases hp with rfl | rfl | rfl <;> omega
theorem needsL_ok {L : List Int} {x : Int} (hL : L.length < 80) : ∀ p ∈ needsL L x, p := by
  intro p hp
  simp only [needsL, List.mem_cons, List.not_mem_nil, or_false] at hp
  rcases hp with rfl | rfl
  · rw [List.length_append]; simp; omega
  · trivial
theorem needs_wp2 {K : Ex → St → Prop} : ∀ {l : List Prop} {t : Tree}, (∀ p ∈ l, p) → t.wp K → (needs l t).wp K
  | [], _, _, h => h
  | p :: r, _, hl, h => ⟨hl p (by simp), needs_wp2 (fun q hq => hl q (by simp [hq])) h⟩
def AtF (F : List Int) (a : Int) : Prop := 0 ≤ a ∧ a + 128 ≤ F.length
def endW (F : List Int) (a : Int) (h : List Int) : Tree := .need (AtF F a) (.leaf (.exit 2) (TW F a h 80 (wF F a 80)))
def RW (F : List Int) (a : Int) (h : List Int) : St → Tree := fun st => .need (shW st = TW F a h 0 []) (endW F a h)
theorem all_app {l r : List Prop} (h1 : ∀ p ∈ l, p) (h2 : ∀ p ∈ r, p) : ∀ p ∈ l ++ r, p := fun p hp => (List.mem_append.1 hp).elim (h1 p) (h2 p)
theorem loopW (F : List Int) (a : Int) (hs : F.length ≤ 2199023255552) (h : List Int) : LpOk Try.prog (loopAt (bodyOf Try.f29) 9) (RW F a h) := by
  refine loop_tpl (P := Try.prog) (cts := [ctRights]) (lps := []) (fz := [500012]) (fuel := 10) (sh := shW) (shx := shW) mix (allOk ⟨ctRights_ok, trivial⟩) (.inr fun S h => h) (fun _ _ f hf => by cases hf)
    hwW hwW (fun x => TW F a h x.1 x.2) (IW F a) (fun x => 80 - x.1.toNat) (fun _ => endW F a h) ?_ (a0 := (0, [])) ⟨0, Nat.zero_le _, rfl, rfl⟩
  rintro ⟨t, L⟩ ⟨n, hn, ht, hL⟩ K hK
  dsimp only at ht hL
  subst ht; subst hL
  rw [roundW]
  have hl := wF_length F a n
  obtain ⟨⟨ha0, ha1⟩, hK1⟩ := id hK
  obtain ⟨m, rfl⟩ : ∃ m : Nat, a = (m : Int) := ⟨a.toNat, by omega⟩
  refine ⟨fun hb => ?_, fun hb => ?_⟩
  · have hlt : n < 80 := by
      have := of_decide_eq_true hb
      omega
    have e1 : IntKind.i64.wrap ((n : Int) + 1) = ((n + 1 : Nat) : Int) := by rw [IntWalk.i64_in _ (by omega)]; omega
    rw [e1]
    refine ⟨fun hc => ?_, fun hc => ?_⟩
    · have h16 : n < 16 := by
        have := of_decide_eq_true hc
        omega
      refine needs_wp2 (all_app (needsB_ok (by omega) hs h16) (needsL_ok (L := wF F (m : Int) n) (by rw [hl]; omega))) ⟨(((n + 1 : Nat) : Int), wF F (m : Int) (n + 1)), ?_, ⟨n + 1, hlt, rfl, rfl⟩, ?_, hK⟩
      · show TW F _ h _ _ = TW F _ h _ (wF F _ n ++ [bif Nat.blt n 16 then _ else _])
        rw [show Nat.blt n 16 = true by rw [Nat.blt_eq]; exact h16, cond_true]
      · dsimp only
        rw [Int.toNat_natCast, Int.toNat_natCast]
        omega
    · have h16 : ¬ n < 16 := by
        have := of_decide_eq_false hc
        omega
      refine needs_wp2 (all_app (needsI_ok hl (by omega) (by omega)) (needsL_ok (L := wF F (m : Int) n) (by rw [hl]; omega))) ⟨(((n + 1 : Nat) : Int), wF F (m : Int) (n + 1)), ?_, ⟨n + 1, hlt, rfl, rfl⟩, ?_, hK⟩
      · show TW F _ h _ _ = TW F _ h _ (wF F _ n ++ [bif Nat.blt n 16 then _ else _])
        rw [show Nat.blt n 16 = false by rw [Bool.eq_false_iff]; intro e; rw [Nat.blt_eq] at e; exact h16 e, cond_false]
      · dsimp only
        rw [Int.toNat_natCast, Int.toNat_natCast]
        omega
  · have hge : n = 80 := by
      have := of_decide_eq_false hb
      omega
    subst hge
    exact hK1
/-! ### The rounds of a block -/
def vF (h w : List Int) : Nat → List Int
  | 0 => h
  | n + 1 => rnd (kS n) (w.getD n 0) (vF h w n)
def IV (h w : List Int) (x : Int × List Int) : Prop := ∃ n : Nat, n ≤ 80 ∧ x.1 = (n : Int) ∧ x.2 = vF h w n
theorem needsV_ok {w : List Int} {n : Nat} (hw : w.length = 80) (hn : n < 80) : ∀ p ∈ needsV w (n : Int), p := by
  intro p hp
  have h8 : (toLen 80 kC).length = 80 := toLen_length _ _
  simp only [needsV, h8, List.mem_cons, List.not_mem_nil, or_false] at hp
  rcases hp with rfl | rfl | rfl | rfl | rfl | rfl <;> omega
def RV (F : List Int) (a : Int) (h w : List Int) : St → Tree := fun st => .need (shV st = TV F a h w 0 h) (.leaf (.exit 6) (TV F a h w 80 (vF h w 80)))
theorem loopV (F : List Int) (a : Int) (h : List Int) {w : List Int} (hw : w.length = 80) : LpOk Try.prog (loopAt (bodyOf Try.f29) 24) (RV F a h w) := by
  refine loop_tpl (P := Try.prog) (cts := [ctRights]) (lps := []) (fz := []) (fuel := 0) (sh := shV) (shx := shV) mix (allOk ⟨ctRights_ok, trivial⟩) (.inl rfl) (fun _ _ f hf => by cases hf)
    hwV hwV (fun x => TV F a h w x.1 x.2) (IV h w) (fun x => 80 - x.1.toNat) (fun _ => .leaf (.exit 6) (TV F a h w 80 (vF h w 80))) ?_ (a0 := (0, h)) ⟨0, Nat.zero_le _, rfl, rfl⟩
  rintro ⟨t, v⟩ ⟨n, hn, ht, hv⟩ K hK
  dsimp only at ht hv
  subst ht; subst hv
  rw [roundV]
  refine ⟨fun hb => ?_, fun hb => ?_⟩
  · have hlt : n < 80 := by
      have := of_decide_eq_true hb
      omega
    have e1 : IntKind.i64.wrap ((n : Int) + 1) = ((n + 1 : Nat) : Int) := by rw [IntWalk.i64_in _ (by omega)]; omega
    rw [e1]
    refine needs_wp2 (needsV_ok hw hlt) ⟨(((n + 1 : Nat) : Int), vF h w (n + 1)), rfl, ⟨n + 1, hlt, rfl, rfl⟩, ?_, hK⟩
    dsimp only
    rw [Int.toNat_natCast, Int.toNat_natCast]
    omega
  · have hge : n = 80 := by
      have := of_decide_eq_false hb
      omega
    subst hge
    exact hK
/-! ### The loop over the blocks -/
def prF (F : List Int) (a : Int) (h : List Int) : List Int := (List.range 8).map fun i => W.wrap (h.getD i 0 + (vF h (wF F a 80) 80).getD i 0)
def hF_ (F : List Int) : Nat → List Int
  | 0 => startC
  | n + 1 => prF F ((128 * n : Nat) : Int) (hF_ F n)
def lpsB (F : List Int) (x : Int × List Int) : List (Nat × (St → Tree)) := [(9, RW F x.1 x.2), (24, RV F x.1 x.2 (wF F x.1 80))]
theorem roundR (F : List Int) (a : Int) (h : List Int) : (exec Try.prog [ctRights] (lpsB F (a, h)) [] 10 (loopAt (bodyOf Try.f29) 5) (TR F a h)).shape shR shR =
    .br (decide (a < F.length)) (.need (TW F a h 0 [] = TW F a h 0 []) (.need (AtF F a) (.need (TV F a h (wF F a 80) 0 h = TV F a h (wF F a 80) 0 h) (.leaf .normal (TR F (IntKind.i64.wrap (a + 128)) (prF F a h)))))) (.leaf (.exit 0) (TR F a h)) := by kernel_rfl
theorem inW : ((loopsOf (loopAt (bodyOf Try.f29) 5)).filter fun b => codeKey b == 9) = [loopAt (bodyOf Try.f29) 9] := by kernel_rfl
theorem inV : ((loopsOf (loopAt (bodyOf Try.f29) 5)).filter fun b => codeKey b == 24) = [loopAt (bodyOf Try.f29) 24] := by kernel_rfl
theorem one_is {c body x : Code} {k : Nat} (h : ((loopsOf c).filter fun b => codeKey b == k) = [x]) (hb : body ∈ loopsOf c) (hk : codeKey body = k) : body = x := by
  have : body ∈ (loopsOf c).filter fun b => codeKey b == k := List.mem_filter.2 ⟨hb, by simp [hk]⟩
  rw [h] at this
  exact List.mem_singleton.1 this
def IR (F : List Int) (x : Int × List Int) : Prop := ∃ n, n ≤ F.length / 128 ∧ x.1 = ((128 * n : Nat) : Int) ∧ x.2 = hF_ F n
theorem loopR (F : List Int) (hF : F.length = 128 * (F.length / 128)) (hs : F.length ≤ 2199023255552) : LpOk Try.prog (loopAt (bodyOf Try.f29) 5) (fun st => .need (shR st = TR F 0 startC) (.leaf (.exit 0) (TR F F.length (hF_ F (F.length / 128))))) := by
  refine loop_tplL (P := Try.prog) (cts := [ctRights]) (lps := lpsB F) (fz := []) (fuel := 10) (sh := shR) (shx := shR) mix (allOk ⟨ctRights_ok, trivial⟩) (.inl rfl) (IR F) (fun x _ => lpsOk ⟨fun body hb hk => ?_, fun body hb hk => ?_, trivial⟩)
    hwR hwR (fun x => TR F x.1 x.2) (fun x => F.length - x.1.toNat) (fun _ => .leaf (.exit 0) (TR F F.length (hF_ F (F.length / 128)))) ?_ (a0 := (0, startC)) ⟨0, Nat.zero_le _, rfl, rfl⟩
  · rw [one_is inW hb hk]
    exact loopW F x.1 hs x.2
  · rw [one_is inV hb hk]
    exact loopV F x.1 x.2 (wF_length _ _ _)
  rintro ⟨a, h⟩ ⟨n, hn, ha, hh⟩ K hK
  dsimp only at ha hh
  subst ha; subst hh
  rw [roundR]
  refine ⟨fun hb => ?_, fun hb => ?_⟩
  · have hlt : n < F.length / 128 := by
      have := of_decide_eq_true hb
      omega
    refine ⟨rfl, ⟨by omega, by omega⟩, rfl, (IntKind.i64.wrap (((128 * n : Nat) : Int) + 128), _), rfl, ⟨n + 1, hlt, ?_, rfl⟩, ?_, hK⟩
    · dsimp only
      rw [IntWalk.i64_in _ (by omega)]; omega
    · dsimp only
      rw [IntWalk.i64_in _ (by omega), Int.toNat_natCast]
      omega
  · have hge : n = F.length / 128 := by
      have := of_decide_eq_false hb
      omega
    subst hge
    show K (.exit 0) (TR F ((128 * (F.length / 128) : Nat) : Int) (hF_ F (F.length / 128)))
    rw [← hF]
    exact hK
/-! ### The sum -/
theorem fullR_length (data : ByteArray) : (fullR data).length = (fullB data).length := by
  unfold fullR fullB
  rw [lenAppR_length, lenApp_length]
def smL (data : ByteArray) : List Int := outR (hF_ (fullR data) ((fullR data).length / 128))
def smS (data : ByteArray) : ByteArray := strOfNums (toLen 64 (smL data))
theorem smS_size (data : ByteArray) : (smS data).size = 64 := by rw [smS, strOfNums_size, toLen_length]
theorem onlyR : ((loopsOf (bodyOf Try.f29)).filter fun b => codeKey b == 5) = [loopAt (bodyOf Try.f29) 5] := by kernel_rfl
def lpsR (data : ByteArray) : List (Nat × (St → Tree)) := [(5, fun st => .need (shR st = TR (fullR data) 0 startC) (.leaf (.exit 0) (TR (fullR data) (fullR data).length (hF_ (fullR data) ((fullR data).length / 128)))))]
def ctSumR : Ct := shCt 29 [.str] fun ds => ([(dS ds 0).size ≤ 1099511627776], .sv (.one (.strn (smS (dS ds 0)) 64 (smS_size _))))
theorem ctSumR_ok : CtOk Try.prog ctSumR :=
  runCtL_ok (cts := [ctKR, ctBegR, ctFull, ctRights]) (fz := []) (fuel := 66) mix (allOk ⟨ctKR_ok, ctBegR_ok, ctFull_ok, ctRights_ok, trivial⟩) Try.func29 (c := bodyOf Try.f29) (by kernel_rfl) (by kernel_rfl) (fun _ => rfl) fun ds h hn => match ds, h, hn with
    | [.S data], h, hn => by
      have hd : data.size ≤ 1099511627776 := hn _ (List.mem_singleton.2 rfl)
      have hF := fullB_length data
      have hs := fullB_le data
      rw [← fullR_length] at hF hs
      refine ⟨lpsR data, lpsOk (c := bodyOf Try.f29) (lps := lpsR data) ⟨fun body hb hk => ?_, trivial⟩, _, viewArgs_is h, ?_⟩
      · rw [loopAt_is onlyR hb hk]
        exact loopR (fullR data) hF (by omega)
      · have hr : runC Try.prog [ctKR, ctBegR, ctFull, ctRights] (lpsR data) [] 66 Try.f29 (bodyOf Try.f29) (viewArgs [.str] [.S data] h) = needT [data.size ≤ 1099511627776, TR (fullR data) 0 startC = TR (fullR data) 0 startC] (.leaf (str1 (smS data))) := by kernel_rfl
        rw [hr]
        exact needT_wp (by intro p hp; rcases List.mem_cons.1 hp with rfl | hp; exact hd; rw [List.mem_singleton.1 hp]) rfl
end Go.Proofs.Ytihmhnfjdkkbgaa.Sh64
