/- RX, part Q: the head of a dump's order, read without reckoning its whole: what the row asks of the whole program. -/
import Derived.Test.YtihmhnfjdkkbgaaRows
import Derived.KernelRfl
import Derived.JoinedOf
noncomputable section
namespace Go.Proofs.Ytihmhnfjdkkbgaa.RX
open Go
theorem words_behind : ∀ (w : List Char) (r : List Char), (w.all fun c => c != ' ') = true → wordsSigns (w ++ ' ' :: r) = w :: wordsSigns r
  | [], r, _ => rfl
  | c :: w, r, h => by
    simp only [List.all_cons, Bool.and_eq_true, bne_iff_ne, ne_eq] at h
    have ih := words_behind w r h.2
    show wordsSigns (c :: (w ++ ' ' :: r)) = _
    rw [wordsSigns.eq_def]
    split
    · rename_i e; cases e
    · rename_i e; cases e; exact (h.1 rfl).elim
    · rename_i c' r' _ e
      cases e
      rw [ih]
theorem cut_head {l : List Char} (h1 : l.take 8 = ['h', 'a', 'r', 'n', 'e', 's', 's', ' ']) (h2 : (((l.drop 8).take 64).all fun c => c != ' ') = true) (h3 : isSumSigns ((l.drop 8).take 64) = true)
    (h4 : (l.drop 72).take 5 = [' ', 'c', 'u', 't', ' ']) : behindMainWord (wordsSigns l) = ['c', 'u', 't'] :: wordsSigns (l.drop 77) := by
  have e : l = ['h', 'a', 'r', 'n', 'e', 's', 's'] ++ ' ' :: ((l.drop 8).take 64 ++ ' ' :: (['c', 'u', 't'] ++ ' ' :: l.drop 77)) := by
    have e1 : l = l.take 8 ++ ((l.drop 8).take 64 ++ ((l.drop 72).take 5 ++ l.drop 77)) := by
      have a1 := (List.take_append_drop 5 (l.drop 72)).symm
      rw [List.drop_drop] at a1
      have a2 := (List.take_append_drop 64 (l.drop 8)).symm
      rw [List.drop_drop] at a2
      have a3 := (List.take_append_drop 8 l).symm
      rw [← a1, ← a2, ← a3]
    rw [h1, h4] at e1
    exact e1
  have e2 : wordsSigns l = ['h', 'a', 'r', 'n', 'e', 's', 's'] :: (l.drop 8).take 64 :: ['c', 'u', 't'] :: wordsSigns (l.drop 77) := by
    rw [congrArg wordsSigns e, words_behind _ _ (by decide), words_behind _ _ h2, words_behind _ _ (by decide)]
  rw [e2]
  show (if ((['h', 'a', 'r', 'n', 'e', 's', 's'] == "harness".toList || ['h', 'a', 'r', 'n', 'e', 's', 's'] == "ownmain".toList) && isSumSigns ((l.drop 8).take 64)) = true then ['c', 'u', 't'] :: wordsSigns (l.drop 77) else _) = _
  rw [h3, if_pos (by decide)]
theorem lits : "gc".toList = ['g', 'c'] ∧ "spec".toList = ['s', 'p', 'e', 'c'] ∧ "stop".toList = ['s', 't', 'o', 'p'] ∧ "carried".toList = ['c', 'a', 'r', 'r', 'i', 'e', 'd'] ∧ "cut".toList = ['c', 'u', 't'] ∧ "finals".toList = ['f', 'i', 'n', 'a', 'l', 's'] :=
  ⟨String.toList_ofList, String.toList_ofList, String.toList_ofList, String.toList_ofList, String.toList_ofList, String.toList_ofList⟩
theorem strip_cut (r : List (List Char)) : ∀ os : List String, (∀ o ∈ os, o ≠ "cut") → stripLifts os (['c', 'u', 't'] :: r) = ([], ['c', 'u', 't'] :: r)
  | [], _ => rfl
  | o :: os, h => by
    show (if ['c', 'u', 't'] == o.toList then _ else _) = _
    rw [if_neg]
    · exact strip_cut r os fun x hx => h x (List.mem_cons_of_mem _ hx)
    · intro e
      have e1 : ['c', 'u', 't'] = o.toList := by simpa using e
      apply h o (List.mem_cons_self ..)
      rw [← String.ofList_toList (s := o), ← e1]
theorem strip_lifts (r : List (List Char)) : stripLifts liftWords (['c', 'u', 't'] :: r) = ([], ['c', 'u', 't'] :: r) := strip_cut r _ (by simp [liftWords])
theorem enters_of {P : Program} {r : List (List Char)} (h : behindMainWord (wordsSigns P.initOrder.toList) = ['c', 'u', 't'] :: r) (h1 : P.laysLater = false) (h2 : P.bearsReflect = false) (h3 : P.doorFits [] = true) : P.mayEnter = true := by
  unfold Program.mayEnter
  rw [h]
  show (_ || _ || _) = true
  simp only [RX.strip_lifts, RX.lits, h1, h2, h3]
  simp
theorem noFinals_of {P : Program} {r : List (List Char)} (h : behindMainWord (wordsSigns P.initOrder.toList) = ['c', 'u', 't'] :: r) : P.liftsFinal = false := by
  unfold Program.liftsFinal Program.headLifts
  rw [h]
  simp only [RX.strip_lifts, RX.lits]
  simp
theorem made_of {P : Program} {r : List (List Char)} (h : behindMainWord (wordsSigns P.initOrder.toList) = ['c', 'u', 't'] :: r) : P.make = some .cut := by
  unfold Program.make
  rw [h]
  simp only [RX.lits]
  simp
end RX
set_option maxRecDepth 1000000 in
def Try.order : List Char := ['h', 'a', 'r', 'n', 'e', 's', 's', ' ', '9', '6', '5', '4', 'f', 'b', '6', 'f', '2', '9', '4', 'a', '6', '0', 'f', 'b', '3', 'c', '2', 'b', '7', 'f', 'c', '3', 'c', '3', '3', '7', '8', '0', '1', 'f', '3', '2', '9', 'a', 'd', '1', 'b', '5', '5', '3', '5', '0', 'e', '0', 'f', 'a', '7', 'e', 'e', 'd', '5', '0', '3', '0', 'e', 'b', '8', '4', '4', '9', '6', '0', ' ', 'c', 'u', 't', ' ', 'a', 't', ' ', 'c', 'r', 'e', 's', 's', 'e', 't', '/', 'c', 'r', 'e', 's', 's', 'e', 't', 'l', 'a', 'w', '0', '1', '.', 'S', 'h', 'a', 'S', 'm', 'a', 'l', 'l', ' ', 'c', 'r', 'e', 's', 's', 'e', 't', '/', 'c', 'r', 'e', 's', 's', 'e', 't', 'l', 'a', 'w', '0', '1', '.', 'S', 'h', 'a', 'G', 'r', 'e', 'a', 't', ' ', 'c', 'r', 'e', 's', 's', 'e', 't', '/', 'c', 'r', 'e', 's', 's', 'e', 't', 'l', 'a', 'w', '0', '1', '.', 'S', 'h', 'a', 'N', 'i', 'l', ' ', 'c', 'r', 'e', 's', 's', 'e', 't', '/', 'c', 'r', 'e', 's', 's', 'e', 't', 'l', 'a', 'w', '0', '1', '.', 'S', 'h', 'a', 'T', 'a', 'k', 'e', 's', ' ', 'c', 'r', 'e', 's', 's', 'e', 't', '/', 'c', 'r', 'e', 's', 's', 'e', 't', 'l', 'a', 'w', '0', '1', '.', 'S', 'h', 'a', 'C', 'u', 't', ' ', 'c', 'r', 'e', 's', 's', 'e', 't', '/', 'c', 'r', 'e', 's', 's', 'e', 't', 'l', 'a', 'w', '0', '1', '.', 'S', 'h', 'a', 'S', 'i', 'z', 'e', 's', ' ', 'c', 'r', 'e', 's', 's', 'e', 't', '/', 'c', 'r', 'e', 's', 's', 'e', 't', 'l', 'a', 'w', '0', '2', '.', 'M', 'a', 'c', 'T', 'a', 'g', 's', ' ', 'c', 'r', 'e', 's', 's', 'e', 't', '/', 'c', 'r', 'e', 's', 's', 'e', 't', 'l', 'a', 'w', '0', '2', '.', 'M', 'a', 'c', 'E', 'x', 'p', 'a', 'n', 'd', 's', ' ', 'c', 'r', 'e', 's', 's', 'e', 't', '/', 'c', 'r', 'e', 's', 's', 'e', 't', 'l', 'a', 'w', '0', '2', '.', 'M', 'a', 'c', 'B', 'e', 'g', 'i', 'n', 's', ' ', 'c', 'r', 'e', 's', 's', 'e', 't', '/', 'c', 'r', 'e', 's', 's', 'e', 't', 'l', 'a', 'w', '0', '2', '.', 'M', 'a', 'c', 'L', 'o', 'n', 'g', ' ', 'c', 'r', 'e', 's', 's', 'e', 't', '/', 'c', 'r', 'e', 's', 's', 'e', 't', 'l', 'a', 'w', '0', '2', '.', 'M', 'a', 'c', 'E', 'x', 't', 'r', 'a', 'c', 't', 's', ' ', 'c', 'r', 'e', 's', 's', 'e', 't', '/', 'c', 'r', 'e', 's', 's', 'e', 't', 'l', 'a', 'w', '0', '2', '.', 'M', 'a', 'c', 'E', 'x', 't', 'r', 'a', 'c', 't', ' ', 'c', 'r', 'e', 's', 's', 'e', 't', '/', 'c', 'r', 'e', 's', 's', 'e', 't', 'l', 'a', 'w', '0', '2', '.', 'M', 'a', 'c', 'L', 'a', 'b', 'e', 'l', 's', ' ', 'c', 'r', 'e', 's', 's', 'e', 't', '/', 'c', 'r', 'e', 's', 's', 'e', 't', 'l', 'a', 'w', '0', '2', '.', 'M', 'a', 'c', 'S', 'a', 'm', 'e', ' ', 'c', 'r', 'e', 's', 's', 'e', 't', '/', 'c', 'r', 'e', 's', 's', 'e', 't', 'l', 'a', 'w', '1', '7', '.', 'K', 'e', 'y', 's', 'T', 'r', 'a', 'f', 'f', 'i', 'c', ' ', 'c', 'r', 'e', 's', 's', 'e', 't', '/', 'c', 'r', 'e', 's', 's', 'e', 't', 'l', 'a', 'w', '1', '7', '.', 'K', 'e', 'y', 's', 'N', 'e', 'x', 't', ' ', 'c', 'r', 'e', 's', 's', 'e', 't', '/', 'c', 'r', 'e', 's', 's', 'e', 't', 'l', 'a', 'w', '1', '7', '.', 'K', 'e', 'y', 's', 'S', 'e', 'c', 'r', 'e', 't', 's', ' ', 'c', 'r', 'e', 's', 's', 'e', 't', '/', 'c', 'r', 'e', 's', 's', 'e', 't', 'l', 'a', 'w', '1', '7', '.', 'K', 'e', 'y', 's', 'M', 'a', 's', 't', 'e', 'r', ' ', 'c', 'r', 'e', 's', 's', 'e', 't', '/', 'c', 'r', 'e', 's', 's', 'e', 't', 'l', 'a', 'w', '1', '7', '.', 'K', 'e', 'y', 's', 'S', 't', 'e', 'p', 's', ' ', 'c', 'r', 'e', 's', 's', 'e', 't', '/', 'c', 'r', 'e', 's', 's', 'e', 't', 'l', 'a', 'w', '1', '7', '.', 'K', 'e', 'y', 's', 'S', 'i', 'g', 'n', 'e', 'd', ' ', 'c', 'r', 'e', 's', 's', 'e', 't', '/', 'c', 'r', 'e', 's', 's', 'e', 't', 'l', 'a', 'w', '1', '7', '.', 'K', 'e', 'y', 's', 'T', 'a', 'g', 's', ' ', 'c', 'r', 'e', 's', 's', 'e', 't', '/', 'c', 'r', 'e', 's', 's', 'e', 't', 'l', 'a', 'w', '1', '7', '.', 'K', 'e', 'y', 's', 'S', 'i', 'z', 'e', 's']
set_option maxRecDepth 1000000 in
theorem Try.orderIs : Try.prog.initOrder = String.ofList Try.order := by kernel_rfl
theorem Try.orderL : Try.prog.initOrder.toList = Try.order := by rw [Try.orderIs, String.toList_ofList]
theorem Try.heads : behindMainWord (wordsSigns Try.prog.initOrder.toList) = ['c', 'u', 't'] :: wordsSigns (Try.order.drop 77) := by
  rw [Try.orderL]
  exact RX.cut_head (by kernel_rfl) (by kernel_rfl) (by kernel_rfl) (by kernel_rfl)
theorem Try.enters : Try.prog.mayEnter = true := RX.enters_of Try.heads (by kernel_rfl) (by kernel_rfl) (by kernel_rfl)
theorem Try.noFinals : Try.prog.liftsFinal = false := RX.noFinals_of Try.heads
theorem Try.made : Try.prog.make = some .cut := RX.made_of Try.heads
end Go.Proofs.Ytihmhnfjdkkbgaa
