/- The ladder: bits that do not count make no difference. -/
import Derived.Test.YtkkekjkfafnahaaLdi
noncomputable section
namespace Go.Proofs.Ytkkekjkfafnahaa.Fd
open Go Go.RowKit RX
set_option linter.unusedSimpArgs false
set_option maxRecDepth 1000000
theorem wfU {n : Int} (h : (Lit.int .u8 n).wf = true) : 0 ≤ n ∧ n ≤ 255 := by
  simp [Lit.wf] at h
  have h1 : IntKind.u8.min = 0 := rfl
  have h2 : IntKind.u8.max = 255 := rfl
  rw [h1, h2] at h
  exact h
/-- A text's bytes, the first and the last one exclusive or a number. -/
def flipL (s : ByteArray) (c d : Int) : List Int := (List.range 32).map fun i => match i with
  | 0 => xorI .u8 (sbyte s 0) c
  | 31 => xorI .u8 (sbyte s 31) d
  | i => sbyte s i
def flipS (s : ByteArray) (c d : Int) : ByteArray := strOfNums (flipL s c d)
theorem flipS_size (s : ByteArray) (c d : Int) : (flipS s c d).size = 32 := by unfold flipS; rw [strOfNums_size]; simp [flipL]
def flip1L (s : ByteArray) (d : Int) : List Int := (List.range 32).map fun i => match i with
  | 31 => xorI .u8 (sbyte s 31) d
  | i => sbyte s i
def flip1S (s : ByteArray) (d : Int) : ByteArray := strOfNums (flip1L s d)
theorem flip1S_size (s : ByteArray) (d : Int) : (flip1S s d).size = 32 := by unfold flip1S; rw [strOfNums_size]; simp [flip1L]
theorem flipL_getD (s : ByteArray) (c d : Int) {i : Nat} (h : i < 32) : (flipL s c d).getD i 0 = if i = 0 then xorI .u8 (sbyte s 0) c else if i = 31 then xorI .u8 (sbyte s 31) d else sbyte s i := by
  unfold flipL
  rw [getD_map_range h]
  split
  · rw [if_pos rfl]
  · rw [if_neg (by decide), if_pos rfl]
  · rename_i e1 e2
    rw [if_neg (fun h => e1 h), if_neg (fun h => e2 h)]
theorem flip1L_getD (s : ByteArray) (d : Int) {i : Nat} (h : i < 32) : (flip1L s d).getD i 0 = if i = 31 then xorI .u8 (sbyte s 31) d else sbyte s i := by
  unfold flip1L
  rw [getD_map_range h]
  split
  · rw [if_pos rfl]
  · rename_i e2
    rw [if_neg (fun h => e2 h)]
theorem and7 {x : Int} (h : 0 ≤ x ∧ x ≤ 255) : andI .u8 x 7 = x % 8 := by
  have e := (by decide +kernel : ∀ n : Fin 256, andI .u8 ((n : Nat) : Int) 7 = ((n : Nat) : Int) % 8) ⟨x.toNat, by omega⟩
  simp only [Int.toNat_of_nonneg h.1] at e
  exact e
theorem and192 {x : Int} (h : 0 ≤ x ∧ x ≤ 255) : andI .u8 x 192 = 64 * (x / 64) := by
  have e := (by decide +kernel : ∀ n : Fin 256, andI .u8 ((n : Nat) : Int) 192 = 64 * (((n : Nat) : Int) / 64)) ⟨x.toNat, by omega⟩
  simp only [Int.toNat_of_nonneg h.1] at e
  exact e
theorem and128 {x : Int} (h : 0 ≤ x ∧ x ≤ 255) : andI .u8 x 128 = 128 * (x / 128) := by
  have e := (by decide +kernel : ∀ n : Fin 256, andI .u8 ((n : Nat) : Int) 128 = 128 * (((n : Nat) : Int) / 128)) ⟨x.toNat, by omega⟩
  simp only [Int.toNat_of_nonneg h.1] at e
  exact e
theorem low3 {b x : Int} (hb : 0 ≤ b ∧ b ≤ 255) (h : 0 ≤ x ∧ x ≤ 255) : (0 ≤ xorI .u8 b (andI .u8 x 7) ∧ xorI .u8 b (andI .u8 x 7) ≤ 255) ∧ bits .andNot .u8 (xorI .u8 b (andI .u8 x 7)) 7 = bits .andNot .u8 b 7 := by
  rw [and7 h]
  have e := (by decide +kernel : ∀ n : Fin 256, ∀ m : Fin 8, (0 ≤ xorI .u8 ((n : Nat) : Int) ((m : Nat) : Int) ∧ xorI .u8 ((n : Nat) : Int) ((m : Nat) : Int) ≤ 255) ∧ bits .andNot .u8 (xorI .u8 ((n : Nat) : Int) ((m : Nat) : Int)) 7 = bits .andNot .u8 ((n : Nat) : Int) 7) ⟨b.toNat, by omega⟩ ⟨(x % 8).toNat, by omega⟩
  simp only [Int.toNat_of_nonneg hb.1, Int.toNat_of_nonneg (show 0 ≤ x % 8 by omega)] at e
  exact e
theorem high2 {b x : Int} (hb : 0 ≤ b ∧ b ≤ 255) (h : 0 ≤ x ∧ x ≤ 255) : (0 ≤ xorI .u8 b (andI .u8 x 192) ∧ xorI .u8 b (andI .u8 x 192) ≤ 255) ∧ orI .u8 (andI .u8 (xorI .u8 b (andI .u8 x 192)) 127) 64 = orI .u8 (andI .u8 b 127) 64 := by
  rw [and192 h]
  have e := (by decide +kernel : ∀ n : Fin 256, ∀ m : Fin 4, (0 ≤ xorI .u8 ((n : Nat) : Int) (64 * ((m : Nat) : Int)) ∧ xorI .u8 ((n : Nat) : Int) (64 * ((m : Nat) : Int)) ≤ 255) ∧ orI .u8 (andI .u8 (xorI .u8 ((n : Nat) : Int) (64 * ((m : Nat) : Int))) 127) 64 = orI .u8 (andI .u8 ((n : Nat) : Int) 127) 64) ⟨b.toNat, by omega⟩ ⟨(x / 64).toNat, by omega⟩
  simp only [Int.toNat_of_nonneg hb.1, Int.toNat_of_nonneg (show 0 ≤ x / 64 by omega)] at e
  exact e
theorem high1 {b x : Int} (hb : 0 ≤ b ∧ b ≤ 255) (h : 0 ≤ x ∧ x ≤ 255) : (0 ≤ xorI .u8 b (andI .u8 x 128) ∧ xorI .u8 b (andI .u8 x 128) ≤ 255) ∧ andI .u8 (xorI .u8 b (andI .u8 x 128)) 127 = andI .u8 b 127 := by
  rw [and128 h]
  have e := (by decide +kernel : ∀ n : Fin 256, ∀ m : Fin 2, (0 ≤ xorI .u8 ((n : Nat) : Int) (128 * ((m : Nat) : Int)) ∧ xorI .u8 ((n : Nat) : Int) (128 * ((m : Nat) : Int)) ≤ 255) ∧ andI .u8 (xorI .u8 ((n : Nat) : Int) (128 * ((m : Nat) : Int))) 127 = andI .u8 ((n : Nat) : Int) 127) ⟨b.toNat, by omega⟩ ⟨(x / 128).toNat, by omega⟩
  simp only [Int.toNat_of_nonneg hb.1, Int.toNat_of_nonneg (show 0 ≤ x / 128 by omega)] at e
  exact e
theorem flip_byte (s : ByteArray) {x y : Int} (hx : 0 ≤ x ∧ x ≤ 255) (hy : 0 ≤ y ∧ y ≤ 255) {i : Nat} (h : i < 32) : sbyte (flipS s (andI .u8 x 7) (andI .u8 y 192)) i = if i = 0 then xorI .u8 (sbyte s 0) (andI .u8 x 7) else if i = 31 then xorI .u8 (sbyte s 31) (andI .u8 y 192) else sbyte s i := by
  unfold flipS
  have hl : (flipL s (andI .u8 x 7) (andI .u8 y 192)).length = 32 := by simp [flipL]
  have e := flipL_getD s (andI .u8 x 7) (andI .u8 y 192) h
  rw [sbyte_strOfNums (by rw [hl]; exact h) (by
    rw [e]
    split
    · exact (low3 (sbyte_le s 0) hx).1
    · split
      · exact (high2 (sbyte_le s 31) hy).1
      · exact sbyte_le s i), e]
theorem flip1_byte (s : ByteArray) {z : Int} (hz : 0 ≤ z ∧ z ≤ 255) {i : Nat} (h : i < 32) : sbyte (flip1S s (andI .u8 z 128)) i = if i = 31 then xorI .u8 (sbyte s 31) (andI .u8 z 128) else sbyte s i := by
  unfold flip1S
  have hl : (flip1L s (andI .u8 z 128)).length = 32 := by simp [flip1L]
  have e := flip1L_getD s (andI .u8 z 128) h
  rw [sbyte_strOfNums (by rw [hl]; exact h) (by
    rw [e]
    split
    · exact (high1 (sbyte_le s 31) hz).1
    · exact sbyte_le s i), e]
theorem flip_scalar (s : ByteArray) {x y : Int} (hx : 0 ≤ x ∧ x ≤ 255) (hy : 0 ≤ y ∧ y ≤ 255) : scalarL (flipS s (andI .u8 x 7) (andI .u8 y 192)) = scalarL s := by
  unfold scalarL
  refine List.map_congr_left fun i hi => ?_
  rw [List.mem_range] at hi
  have e0 := flip_byte s hx hy (i := 0) (by decide)
  have e31 := flip_byte s hx hy (i := 31) (by decide)
  have ei := flip_byte s hx hy hi
  rw [if_pos rfl] at e0
  rw [if_neg (by decide), if_pos rfl] at e31
  split
  · have e : sbyte (flipS s (andI .u8 x 7) (andI .u8 y 192)) 0 = xorI .u8 (sbyte s 0) (andI .u8 x 7) := e0
    rw [e, (low3 (sbyte_le s 0) hx).2]
  · have e : sbyte (flipS s (andI .u8 x 7) (andI .u8 y 192)) 31 = xorI .u8 (sbyte s 31) (andI .u8 y 192) := e31
    rw [e, (high2 (sbyte_le s 31) hy).2]
  · rename_i c1 c2
    rw [if_neg (fun h => c1 h), if_neg (fun h => c2 h)] at ei
    exact ei
theorem flip_mask (p : ByteArray) {z : Int} (hz : 0 ≤ z ∧ z ≤ 255) : maskS (flip1S p (andI .u8 z 128)) = maskS p := by
  unfold maskS maskL
  congr 1
  refine List.map_congr_left fun i hi => ?_
  rw [List.mem_range] at hi
  have e31 := flip1_byte p hz (i := 31) (by decide)
  have ei := flip1_byte p hz hi
  rw [if_pos rfl] at e31
  split
  · have e : sbyte (flip1S p (andI .u8 z 128)) 31 = xorI .u8 (sbyte p 31) (andI .u8 z 128) := e31
    rw [e, (high1 (sbyte_le p 31) hz).2]
  · rename_i c2
    rw [if_neg (fun h => c2 h)] at ei
    exact ei
theorem flip_share {s p : ByteArray} (hs : s.size = 32) (hp : p.size = 32) {x y z : Int} (hx : 0 ≤ x ∧ x ≤ 255) (hy : 0 ≤ y ∧ y ≤ 255) (hz : 0 ≤ z ∧ z ≤ 255) :
    keyS (flipS s (andI .u8 x 7) (andI .u8 y 192)) (flip1S p (andI .u8 z 128)) = keyS s p ∧ keyE (flipS s (andI .u8 x 7) (andI .u8 y 192)) (flip1S p (andI .u8 z 128)) = keyE s p := by
  have e1 : okK (flipS s (andI .u8 x 7) (andI .u8 y 192)) (flip1S p (andI .u8 z 128)) = okK s p := by
    unfold okK
    rw [decide_eq_true ⟨flipS_size _ _ _, flip1S_size _ _⟩, decide_eq_true ⟨hs, hp⟩]
  have e2 : uL (flip1S p (andI .u8 z 128)) = uL p := by unfold uL; rw [flip_mask p hz]
  have e3 : zK (flipS s (andI .u8 x 7) (andI .u8 y 192)) (flip1S p (andI .u8 z 128)) = zK s p := by unfold zK; rw [flip_scalar s hx hy, e2]
  have e4 : sK (flipS s (andI .u8 x 7) (andI .u8 y 192)) (flip1S p (andI .u8 z 128)) = sK s p := by unfold sK; rw [flip_scalar s hx hy, e2]
  unfold keyS keyE
  rw [e1, e3, e4]
  exact ⟨rfl, rfl⟩
theorem ladderBits_calls (s p : ByteArray) (x y z : Int) (wx : (Lit.int .u8 x).wf = true) (wy : (Lit.int .u8 y).wf = true) (wz : (Lit.int .u8 z).wf = true) (w : World) : Calls Try.prog 18 ⟨[.string s, .string p, .agg ⟨[.int .u8 x, .int .u8 y, .int .u8 z]⟩]⟩ w (RetT w noaway (bool1 true)) := by
  by_cases h : s.size = 32 ∧ p.size = 32
  · obtain ⟨hs, hp⟩ := h
    have hr : runC Try.prog [ctShareP, ctAwakeL] [] [] 10 Try.f18 (bodyOf Try.f18) [.one (.strn s 32 hs), .one (.strn p 32 hp), .agg [.int .u8 x, .int .u8 y, .int .u8 z]] =
        .br ((keyS s p).toList == (keyS (flipS s (andI .u8 x 7) (andI .u8 y 192)) (flip1S p (andI .u8 z 128))).toList) (.br (keyE s p == keyE (flipS s (andI .u8 x 7) (andI .u8 y 192)) (flip1S p (andI .u8 z 128))) yesL noL) noL := by kernel_rfl
    refine calls_of_runT (cts := [ctShareP, ctAwakeL]) (lps := []) (fz := []) (fuel := 10) mix (allOk ⟨ctShareP_ok, ctAwakeL_ok, trivial⟩) Try.func18 (c := bodyOf Try.f18) (by kernel_rfl) (fun _ _ g hg => by cases hg) (args := [.one (.strn s 32 hs), .one (.strn p 32 hp), .agg [.int .u8 x, .int .u8 y, .int .u8 z]]) rfl ?_ (fun k hk => hk.elim) ⟨rfl, rfl, ⟨_, rfl, rfl, rfl, rfl, trivial⟩, trivial⟩
    obtain ⟨e1, e2⟩ := flip_share hs hp (wfU wx) (wfU wy) (wfU wz)
    rw [hr, e1, e2]
    exact TT.br_t (beq_self_eq_true _) (TT.br_t (beq_self_eq_true _) rfl)
  · have hr : runC Try.prog [ctAwakeL] [] [] 10 Try.f18 (bodyOf Try.f18) [.one (.str s), .one (.str p), .agg [.int .u8 x, .int .u8 y, .int .u8 z]] =
        .br ((s.size : Int) != 32) yesL (.br ((p.size : Int) != 32) yesL .stuck) := by kernel_rfl
    refine calls_of_runT (cts := [ctAwakeL]) (lps := []) (fz := []) (fuel := 10) mix (allOk ⟨ctAwakeL_ok, trivial⟩) Try.func18 (c := bodyOf Try.f18) (by kernel_rfl) (fun _ _ g hg => by cases hg) (args := [.one (.str s), .one (.str p), .agg [.int .u8 x, .int .u8 y, .int .u8 z]]) rfl ?_ (fun k hk => hk.elim) ⟨rfl, rfl, ⟨_, rfl, rfl, rfl, rfl, trivial⟩, trivial⟩
    rw [hr]
    refine ⟨fun _ => rfl, fun h1 => ⟨fun _ => rfl, fun h2 => (h ?_).elim⟩⟩
    rw [bne_eq_false_iff_eq] at h1 h2
    omega
end Go.Proofs.Ytkkekjkfafnahaa.Fd
