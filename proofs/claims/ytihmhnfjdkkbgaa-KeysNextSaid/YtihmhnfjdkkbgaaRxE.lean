/- RX, part E: comparisons of aggregates; all operations that only compute ('pureOp'), each right for every world. -/
import Derived.Test.YtihmhnfjdkkbgaaRxD
import Derived.Laws.StructEq
import Derived.ChangeKeysEq
noncomputable section
namespace Go.Proofs.Ytihmhnfjdkkbgaa.RX
set_option linter.unusedSimpArgs false
open Go Go.RowKit

/-! ### '==' of aggregates of numbers: a struct of one field that is an array of whole numbers -/
def numsOf (k : IntKind) : List RC → Option (List Int)
  | [] => some []
  | c :: r => match c.num, numsOf k r with
    | some (_, k', x), some l => if k' = k then some (x :: l) else none
    | _, _ => none
theorem numsOf_is {β : Env} {k : IntKind} : ∀ {cs : List RC} {l : List Int} {vs : List Value}, numsOf k cs = some l → all2 (RC.is β) cs vs → vs = l.map (Value.int k)
  | [], l, vs, h, r => by simp [numsOf] at h; subst h; rw [all2_nil_left r]; rfl
  | c :: cs, l, vs, h, r => by
    obtain ⟨v, vs', rfl, r1, r2⟩ := all2_cons_left r
    unfold numsOf at h
    split at h
    · rename_i b k' x l' h1 h2
      split at h
      · rename_i hk
        subst hk
        cases h
        rw [numsOf_is h2 r2, RC.num_is h1 r1]; rfl
      · cases h
    · cases h
theorem numsOf_length {k : IntKind} : ∀ {cs : List RC} {l : List Int}, numsOf k cs = some l → l.length = cs.length
  | [], l, h => by simp [numsOf] at h; subst h; rfl
  | c :: cs, l, h => by
    unfold numsOf at h
    split at h
    · rename_i b k' x l' h1 h2
      split at h
      · cases h; simp [numsOf_length h2]
      · cases h
    · cases h

def eqShape (P : Program) (t : TypeId) : Option (IntKind × Nat) :=
  if P.stoodInHeld t = true then none else
  if P.eqGuardType P.depth t = true then none else
  match P.underlying t with
  | some (.struct fields) => match fields.toList with
    | [f] => if f.name = "_" then none else match P.underlying f.type with
      | some (.array n e) => match P.underlying e, P.info? e, P.info? f.type with
        | some (.int k), some i, some j => if i.size = 1 ∧ f.offset = 0 ∧ j.size = n then some (k, n) else none
        | _, _, _ => none
      | _ => none
    | _ => none
  | _ => none

theorem run_eqItems_ints {P : Program} {e : TypeId} {k : IntKind} {i : TypeInfo} (hu : P.underlying e = some (.int k)) (hi : P.info? e = some i) (h1 : i.size = 1) (w : World) (d : Nat) :
    ∀ (m : Nat) (pre xs ys pre' : List Int), xs.length = m → ys.length = m → pre.length = pre'.length →
      (Op.eqItems (d + 1) e (P.cellsOf e) ⟨(pre ++ xs).map (Value.int k)⟩ ⟨(pre' ++ ys).map (Value.int k)⟩ (List.range' pre.length m)).run P w = .ok (xs == ys) w
  | 0, pre, xs, ys, pre', hx, hy, _ => by
    obtain rfl := List.eq_nil_of_length_eq_zero hx
    obtain rfl := List.eq_nil_of_length_eq_zero hy
    simp [Op.eqItems]
  | m + 1, pre, x :: xs, y :: ys, pre', hx, hy, hp => by
    have hag : isAggT P e = some false := by simp [isAggT, hu]
    have hc : P.cellsOf e = 1 := by simp [Program.cellsOf, hi, h1]
    have p1 : (part e ⟨(pre ++ x :: xs).map (Value.int k)⟩ (pre.length * 1)).run P w = .ok (.int k x) w := by
      simp [part, run_isAgg hag]
    have p2 : (part e ⟨(pre' ++ y :: ys).map (Value.int k)⟩ (pre.length * 1)).run P w = .ok (.int k y) w := by
      rw [hp]; simp [part, run_isAgg hag]
    rw [List.range'_succ]
    simp only [Op.eqItems, hc, Sem.run_bind, p1, p2, Result.andThen_ok, run_equalIn_int w d e k k x y hu]
    cases hxy : (x == y)
    · simp [hxy]
    · simp only [Bool.not_true, Bool.false_eq_true, if_false]
      have ih := run_eqItems_ints hu hi h1 w d m (pre ++ [x]) xs ys (pre' ++ [y]) (by simpa using hx) (by simpa using hy) (by simp [hp])
      rw [hc] at ih
      simp only [List.append_assoc, List.singleton_append, List.length_append, List.length_cons, List.length_nil, Nat.zero_add] at ih
      rw [ih]
      simp [hxy]

def eqAgg (P : Program) (op : BinOp) (t : TypeId) (x y : TV) : Option RC :=
  match eqShape P t, x, y with
  | some (k, n), .sv (.agg cs), .sv (.agg ds) => match numsOf k cs, numsOf k ds with
    | some l, some m => if l.length = n ∧ m.length = n then match op with
        | .eql => some (.bool (l == m))
        | .neq => some (.bool (!(l == m)))
        | _ => none
      else none
    | _, _ => none
  | _, _, _ => none

theorem eqAgg_sound {P : Program} {op : BinOp} {t : TypeId} {x y : TV} {c : RC} (h : eqAgg P op t x y = some c) {β : Env} {u v : Value} (rx : x.is β u) (ry : y.is β v) (w : World) (o1 o2 : Operand) :
    ∃ r, (do eqGuard op t o1 o2 u v; binOp op t u v : Sem Value).run P w = .ok r w ∧ c.is β r := by
  unfold eqAgg at h
  split at h
  · rename_i k n cs ds hsh
    split at h
    · rename_i l m hl hm
      split at h
      · rename_i hlen
        obtain ⟨us, rfl, ru⟩ := rx
        obtain ⟨vs, rfl, rv⟩ := ry
        have e1 := numsOf_is hl ru
        have e2 := numsOf_is hm rv
        subst e1 e2
        unfold eqShape at hsh
        split at hsh
        · cases hsh
        rename_i hst
        split at hsh
        · cases hsh
        rename_i hg
        split at hsh
        case h_2 => cases hsh
        rename_i fields hu
        split at hsh
        case h_2 => cases hsh
        rename_i f hf
        split at hsh
        · cases hsh
        rename_i hname
        split at hsh
        case h_2 => cases hsh
        rename_i n' e hfu
        split at hsh
        case h_2 => cases hsh
        rename_i k' i j heu hi hj
        split at hsh
        case isFalse => cases hsh
        rename_i hcond
        obtain ⟨c1, c2, c3⟩ := hcond
        cases hsh
        have hfo : P.fieldsOf t = fields := by simp [Program.fieldsOf, hu]
        have hagg : isAggT P f.type = some true := by simp [isAggT, hfu]
        have key : (Op.equalIn 10000 t (.agg ⟨l.map (Value.int k)⟩) (.agg ⟨m.map (Value.int k)⟩)).run P w = .ok (l == m) w := by
          rw [show (10000 : Nat) = 9999 + 1 from rfl, run_equalIn_struct (P := P) w 9999 t _ _ (by rw [hfo]; exact hu) (by simpa using hst), hfo, hf]
          have q1 : (part f.type ⟨l.map (Value.int k)⟩ f.offset).run P w = .ok (.agg ⟨l.map (Value.int k)⟩) w := by
            simp only [part, Sem.run_bind, run_isAgg hagg, Result.andThen_ok, if_true, run_sizeOf' hj, c2, c3, Sem.run_pure]
            congr 2
            have hs : (⟨l.map (Value.int k)⟩ : Array Value).size = 0 + n := by simp [hlen.1]
            rw [← hs, Array.extract_size]
          have q2 : (part f.type ⟨m.map (Value.int k)⟩ f.offset).run P w = .ok (.agg ⟨m.map (Value.int k)⟩) w := by
            simp only [part, Sem.run_bind, run_isAgg hagg, Result.andThen_ok, if_true, run_sizeOf' hj, c2, c3, Sem.run_pure]
            congr 2
            have hs : (⟨m.map (Value.int k)⟩ : Array Value).size = 0 + n := by simp [hlen.2]
            rw [← hs, Array.extract_size]
          simp only [Op.eqFields, ne_eq, hname, not_false_eq_true, if_true, Sem.run_bind, q1, q2, Result.andThen_ok]
          rw [show (9999 : Nat) = 9998 + 1 from rfl, run_equalIn_array (P := P) w 9998 _ _ hfu hi, show (9998 : Nat) = 9997 + 1 from rfl, List.range_eq_range']
          have := run_eqItems_ints heu hi c1 w 9997 n [] l m [] hlen.1 hlen.2 rfl
          simp only [List.nil_append, List.length_nil] at this
          rw [this]
          cases hb : (l == m) <;> simp
        have hguard : P.eqGuardType P.depth t = false := by simpa using hg
        cases op <;> simp at h <;> subst h
        · exact ⟨.bool (l == m), by simp only [Sem.run_bind, run_eqGuard_agg w _ t o1 o2 _ _ hguard, Result.andThen_ok, run_eql_struct, key], rfl⟩
        · exact ⟨.bool (!(l == m)), by simp only [Sem.run_bind, run_eqGuard_agg w _ t o1 o2 _ _ hguard, Result.andThen_ok, run_neq_struct, key], rfl⟩
      · cases h
    · cases h
  · cases h

end Go.Proofs.Ytihmhnfjdkkbgaa.RX
