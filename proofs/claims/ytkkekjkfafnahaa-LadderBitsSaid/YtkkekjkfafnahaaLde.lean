/- The plain law of the ladder: the public key's bits that count. -/
import Derived.Test.YtkkekjkfafnahaaLdn
noncomputable section
namespace Go.Proofs.Ytkkekjkfafnahaa.Fd
open Go Go.RowKit RX
set_option linter.unusedSimpArgs false
theorem mask_eq {p : ByteArray} (h : p.size = 32) : maskS p = maskR p := by
  have hb := sbyte_le p 31
  have h127 : 0 ≤ andI .u8 (sbyte p 31) 127 ∧ andI .u8 (sbyte p 31) 127 ≤ 255 := by
    have key : ∀ n : Fin 256, 0 ≤ andI .u8 ((n : Nat) : Int) 127 ∧ andI .u8 ((n : Nat) : Int) 127 ≤ 255 := by decide +kernel
    have e := key ⟨(sbyte p 31).toNat, by omega⟩
    simp only [Int.toNat_of_nonneg hb.1] at e
    exact e
  have hl : (maskL p).length = 32 := by simp [maskL]
  have hx : (p.extract 0 31).size = 31 := by rw [ByteArray.size_extract]; omega
  refine str_ext ?_ fun i hi => ?_
  · unfold maskS maskR
    rw [strOfNums_size, hl, ByteArray.size_append, hx, strOfNums_size]
    rfl
  · unfold maskS at hi ⊢
    rw [strOfNums_size, hl] at hi
    unfold maskR
    have hm : ∀ j, j < 32 → (maskL p).getD j 0 = if j = 31 then andI .u8 (sbyte p 31) 127 else sbyte p (j : Nat) := by
      intro j hj
      unfold maskL
      rw [getD_map_range hj]
      split
      · rw [if_pos rfl]
      · rename_i e
        rw [if_neg (fun h => e h)]
    have hr : 0 ≤ (maskL p).getD i 0 ∧ (maskL p).getD i 0 ≤ 255 := by
      rw [hm i hi]
      split
      · exact h127
      · exact sbyte_le p i
    rw [sbyte_strOfNums (by omega) hr, hm i hi]
    by_cases h31 : i = 31
    · subst h31
      rw [if_pos rfl, sbyte_append_right (by omega), hx]
      exact (sbyte_strOfNums (xs := [andI .u8 (sbyte p 31) 127]) (i := 0) Nat.zero_lt_one h127).symm
    · rw [if_neg h31, sbyte_append_left (by omega)]
      have e := sbyte_extract (s := p) (a := 0) (b := 31) (i := i) (by omega)
      rw [Nat.zero_add] at e
      exact e.symm
end Go.Proofs.Ytkkekjkfafnahaa.Fd
