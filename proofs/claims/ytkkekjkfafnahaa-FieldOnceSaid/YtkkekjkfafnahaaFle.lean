/- The walk of FieldOnce: the bytes of a number, and p added to them byte for byte. -/
import Derived.Test.YtkkekjkfafnahaaFld
noncomputable section
namespace Go.Proofs.Ytkkekjkfafnahaa.Fd
open Go Go.RowKit RX
set_option linter.unusedSimpArgs false
def onceM (i : Nat) : Int := match i with
  | 0 => 237
  | 31 => 127
  | _ => 255
def onceC (s : ByteArray) : Nat → Int
  | 0 => 0
  | n + 1 => IntKind.i64.wrap ((IntKind.i64.wrap (IntKind.i64.wrap (onceC s n + IntKind.i64.wrap (sbyte s n)) + onceM n)).tdiv 256)
def onceS (s : ByteArray) (n : Nat) : Int := IntKind.i64.wrap (IntKind.i64.wrap (onceC s n + IntKind.i64.wrap (sbyte s n)) + onceM n)
def onceL (s : ByteArray) : List Int := (List.range 32).map fun i => IntKind.u8.wrap (onceS s i)
def onceP (s : ByteArray) : ByteArray := strOfNums (onceL s)
theorem onceM_range (i : Nat) : 0 ≤ onceM i ∧ onceM i ≤ 255 := by
  unfold onceM
  split <;> decide
theorem onceC_ok (s : ByteArray) (n : Nat) : 0 ≤ onceC s n ∧ onceC s n ≤ 1 ∧ onceS s n = onceC s n + sbyte s n + onceM n ∧ onceC s (n + 1) = onceS s n / 256 := by
  have hc : 0 ≤ onceC s n ∧ onceC s n ≤ 1 := by
    cases n with
    | zero => exact ⟨Int.le_refl 0, (by decide : (0 : Int) ≤ 1)⟩
    | succ n =>
      obtain ⟨h1, h2, h3, h4⟩ := onceC_ok s n
      have hb := sbyte_le s n
      have hm := onceM_range n
      rw [h4, h3]
      omega
  have hb := sbyte_le s n
  have hm := onceM_range n
  have e1 : onceS s n = onceC s n + sbyte s n + onceM n := by
    unfold onceS
    rw [IntWalk.i64_in (sbyte s n) (by omega), IntWalk.i64_in (onceC s n + sbyte s n) (by omega), IntWalk.i64_in _ (by omega)]
  refine ⟨hc.1, hc.2, e1, ?_⟩
  show IntKind.i64.wrap ((onceS s n).tdiv 256) = _
  rw [Int.tdiv_eq_ediv_of_nonneg (by omega), IntWalk.i64_in _ (by omega)]
theorem onceL_getD (s : ByteArray) {i : Nat} (h : i < 32) : (onceL s).getD i 0 = onceS s i % 256 := by
  unfold onceL
  rw [getD_map_range h, IntKind.wrap_u8]
theorem val_two (B : Int) (f g : Nat → Int) (m : Nat) : ∀ n, n ≤ m → val B ((List.range m).map fun i => f i + g i) n = val B ((List.range m).map f) n + val B ((List.range m).map g) n
  | 0, _ => by simp [val]
  | n + 1, h => by
    simp only [val]
    rw [val_two B f g m n (by omega), getD_map_range (by omega), getD_map_range (by omega), getD_map_range (by omega), Int.mul_add]
    omega
theorem once_val {s : ByteArray} (h : valS s 32 < pF) : onceC s 32 = 0 ∧ valS (onceP s) 32 = valS s 32 + pF := by
  have hc := carry_val (B := 256) (L := (List.range 32).map fun i => sbyte s (i : Nat) + onceM i) (out := onceL s) (c := onceC s) (c0 := 0) 32 (fun i hi => by
    obtain ⟨_, _, h3, h4⟩ := onceC_ok s i
    rw [onceL_getD s hi, getD_map_range hi, h4]
    omega) rfl
  rw [val_two 256 (fun i => sbyte s (i : Nat)) onceM 32 32 (Nat.le_refl 32)] at hc
  have hm : val 256 ((List.range 32).map onceM) 32 = pF := by decide +kernel
  have hs : val 256 ((List.range 32).map fun i => sbyte s (i : Nat)) 32 = valS s 32 := rfl
  rw [hm, hs] at hc
  have hd : Dig 256 (onceL s) 32 := fun i hi => by rw [onceL_getD s hi]; omega
  have hv := val_lt (by decide) hd
  have hp : 2 * pF < 256 ^ 32 := by decide
  have h0 := (onceC_ok s 32).1
  have h1 := (onceC_ok s 32).2.1
  have hr := valS_range s 32
  have hz : onceC s 32 = 0 := by omega
  refine ⟨hz, ?_⟩
  rw [hz] at hc
  have e : valS (onceP s) 32 = val 256 (onceL s) 32 := by
    unfold valS
    refine val_congr (n := 32) fun i hi => ?_
    rw [getD_map_range hi]
    have hb := hd i hi
    exact sbyte_strOfNums (by simp [onceL]; exact hi) (by omega)
  rw [e]
  omega
def onceFin (x y : Bool) : TT := .br x (.need (x = true) yes) (.br y (.need (x = false) (.need (y = true) yes)) (.need (x = false) (.need (y = false) no)))
theorem onceFin_wp {x y : Bool} (hy : y = true) : (onceFin x y).wp (fun v => v = bool1 true) := by
  subst hy
  exact ⟨fun h => ⟨h, rfl⟩, fun h => ⟨fun _ => ⟨h, rfl, rfl⟩, fun h => (by cases h)⟩⟩
theorem onceBs_size (a : ByteArray) : (BF (ofF a)).size = 32 := bytesN_size 32 _

set_option maxRecDepth 1000000 in
theorem once_calls (a : ByteArray) (w : World) : Calls Try.prog 11 ⟨[.string a]⟩ w (RetT w noaway (bool1 true)) := by
  by_cases hs : a.size = 32
  · have ha := hs
    have hr : runC Try.prog [ctOf, ctBytesF, ctAwake] [] [] 40 Try.f11 (bodyOf Try.f11) [.one (.strn a 32 ha)] =
        .br (!((BF (ofF (BF (ofF a)))).toList == (BF (ofF a)).toList)) (.need ((!((BF (ofF (BF (ofF a)))).toList == (BF (ofF a)).toList)) = true) no) (.need ((!((BF (ofF (BF (ofF a)))).toList == (BF (ofF a)).toList)) = false) (onceFin (decide (onceC (BF (ofF a)) 32 > 0)) ((BF (ofF (onceP (BF (ofF a))))).toList == (BF (ofF a)).toList))) := by kernel_rfl
    refine calls_of_runT (cts := [ctOf, ctBytesF, ctAwake]) (lps := []) (fz := []) (fuel := 40) mix (allOk ⟨ctOf_ok, ctBytesF_ok, ctAwake_ok, trivial⟩) Try.func11 (c := bodyOf Try.f11) (by kernel_rfl) (fun _ _ g hg => by cases hg) (args := [.one (.strn a 32 ha)]) rfl ?_ (fun k hk => hk.elim) ⟨rfl, trivial⟩
    rw [hr]
    have A := ofF_ok a
    have eb := BF_ok A
    have h32 := mod_p (valS a 32)
    have ev : valS (BF (ofF a)) 32 = valS a 32 % pF := by rw [eb, valS_strI h32.1 h32.2]
    have hlt : valS (BF (ofF a)) 32 < pF := by rw [ev]; exact Int.emod_lt_of_pos _ (by decide)
    have c1 : (!((BF (ofF (BF (ofF a)))).toList == (BF (ofF a)).toList)) = false := BFFn (ofF_ok (BF (ofF a))) A (by rw [ev, Int.emod_emod])
    refine ⟨fun h => by rw [c1] at h; (cases h), fun _ => ⟨c1, onceFin_wp (BFF (ofF_ok _) A ?_)⟩⟩
    rw [(once_val hlt).2, ev, Int.add_emod_right, Int.emod_emod]
  · have hr : runC Try.prog [ctOfG, ctAwake] [] [] 40 Try.f11 (bodyOf Try.f11) [.one (.str a)] =
        .br (errB (has 32 a) != 0) (.br ((a.size : Int) != 32) yes no) .stuck := by kernel_rfl
    refine calls_of_runT (cts := [ctOfG, ctAwake]) (lps := []) (fz := []) (fuel := 40) mix (allOk ⟨ctOfG_ok, ctAwake_ok, trivial⟩) Try.func11 (c := bodyOf Try.f11) (by kernel_rfl) (fun _ _ g hg => by cases hg) (args := [.one (.str a)]) rfl ?_ (fun k hk => hk.elim) ⟨rfl, trivial⟩
    rw [hr]
    exact fieldErr1 hs

end Go.Proofs.Ytkkekjkfafnahaa.Fd
