/- RX, part B: the operations that only compute, on symbolic values; each is right for every world. -/
import Derived.Test.YtihmhnfjdkkbgaaRxA
noncomputable section
namespace Go.Proofs.Ytihmhnfjdkkbgaa.RX
set_option linter.unusedSimpArgs false
open Go Go.RowKit

/-! ### Constants and operands -/
def ofCell : Value → RC
  | .int k n => .lit k n
  | .bool b => .blit b
  | .string s => .strn s s.size rfl
  | v => .val v
theorem ofCell_is (β : Env) (v : Value) : (ofCell v).is β v := by cases v <;> simp [ofCell, RC.is]

def ofVal : Value → TV
  | .agg a => .sv (.agg (a.toList.map ofCell))
  | .tuple a => match a.toList with
    | [] => .tup []
    | _ => .sv (.one (.val (.tuple a)))
  | v => .sv (.one (ofCell v))
theorem cells_is (β : Env) : ∀ l : List Value, all2 (RC.is β) (l.map ofCell) l
  | [] => trivial
  | v :: l => ⟨ofCell_is β v, cells_is β l⟩
theorem ofVal_is (β : Env) (v : Value) : (ofVal v).is β v := by
  unfold ofVal
  split
  · rename_i a; exact ⟨a.toList, rfl, cells_is β _⟩
  · rename_i a
    split
    · rename_i h; exact ⟨[], by cases a; simp_all, trivial⟩
    · exact rfl
  · exact ofCell_is β v

def opv (tmps : Tm) : Operand → Option TV
  | .tmp t => tmps.get t
  | .const v => some (ofVal v)
  | .global _ => none
  | .func f => some (.sv (.one (.fn f [])))
theorem opv_is {β : Env} {tmps : Tm} {a : Act} (h : TmIs β tmps a.tmps.toList) (x : Operand) (tv : TV) (e : opv tmps x = some tv) : tv.is β (a.eval x) := by
  cases x with
  | tmp t =>
    obtain ⟨b, hb, r⟩ := h t tv e
    have : a.eval (.tmp t) = b := by
      simp only [Act.eval, Array.getD_eq_getD_getElem?]
      rw [← Array.getElem?_toList, hb]; rfl
    rw [this]; exact r
  | const v => simp [opv] at e; subst e; exact ofVal_is β v
  | global g => simp [opv] at e
  | func f => simp [opv] at e; subst e; exact ⟨[], trivial, rfl⟩

/-! ### Numbers -/
def RC.num : RC → Option (Bool × IntKind × Int)
  | .lit k n => some (true, k, n)
  | .int k x => some (false, k, x)
  | .bit k x _ => some (false, k, x)
  | _ => none
/-- A known number, reckoned as soon as it is looked at. -/
def mkLit (k : IntKind) (x : Int) : RC :=
  match x with
  | .ofNat 0 => .lit k 0
  | .ofNat (n + 1) => .lit k (.ofNat (n + 1))
  | .negSucc n => .lit k (.negSucc n)
theorem mkLit_is (β : Env) (k : IntKind) (x : Int) : (mkLit k x).is β (.int k x) := by
  unfold mkLit; split <;> rfl
def mkNum (l : Bool) (k : IntKind) (x : Int) : RC := match l with | true => mkLit k x | false => .int k x
def mkBool (l : Bool) (b : Bool) : RC := match l with | true => .blit b | false => .bool b
theorem mkNum_is (β : Env) (l : Bool) (k : IntKind) (x : Int) : (mkNum l k x).is β (.int k x) := by
  cases l
  · rfl
  · exact mkLit_is β k x
theorem mkBool_is (β : Env) (l : Bool) (b : Bool) : (mkBool l b).is β (.bool b) := by cases l <;> rfl
theorem RC.num_is {β : Env} {c : RC} {l : Bool} {k : IntKind} {x : Int} (h : c.num = some (l, k, x)) {v : Value} (r : c.is β v) : v = .int k x := by
  cases c <;> simp [RC.num] at h
  all_goals (obtain ⟨_, rfl, rfl⟩ := h; exact r)

def SV.num : SV → Option (Bool × IntKind × Int) | .one c => c.num | _ => none
def TV.num : TV → Option (Bool × IntKind × Int) | .sv (.one c) => c.num | _ => none
theorem TV.num_is {β : Env} {c : TV} {l : Bool} {k : IntKind} {x : Int} (h : c.num = some (l, k, x)) {v : Value} (r : c.is β v) : v = .int k x := by
  cases c with
  | sv s => cases s with
    | one c => exact RC.num_is h r
    | agg cs => simp [TV.num] at h
  | tup ss => simp [TV.num] at h

/-- What two numbers of one kind come to: what must hold, and the result. -/
def arith (op : BinOp) (k : IntKind) (lx ly : Bool) (x y : Int) : Option (List Prop × RC) :=
  match op with
  | .add => some ([], mkNum (lx && ly) k (k.wrap (x + y)))
  | .sub => some ([], mkNum (lx && ly) k (k.wrap (x - y)))
  | .mul => some ([], mkNum (lx && ly) k (k.wrap (x * y)))
  | .quo => match ly with
    | true => if y = 0 then none else some ([], mkNum lx k (k.wrap (x.tdiv y)))
    | false => some ([y ≠ 0], .int k (k.wrap (x.tdiv y)))
  | .rem => match ly with
    | true => if y = 0 then none else some ([], mkNum lx k (x.tmod y))
    | false => some ([y ≠ 0], .int k (x.tmod y))
  | .and => some ([], mkNum (lx && ly) k (bits .and k x y))
  | .or => some ([], mkNum (lx && ly) k (bits .or k x y))
  | .xor => some ([], mkNum (lx && ly) k (bits .xor k x y))
  | .andNot => some ([], mkNum (lx && ly) k (bits .andNot k x y))
  | .eql => some ([], mkBool (lx && ly) (x == y))
  | .neq => some ([], mkBool (lx && ly) (x != y))
  | .lss => some ([], mkBool (lx && ly) (decide (x < y)))
  | .leq => some ([], mkBool (lx && ly) (decide (x ≤ y)))
  | .gtr => some ([], mkBool (lx && ly) (decide (x > y)))
  | .geq => some ([], mkBool (lx && ly) (decide (x ≥ y)))
  | _ => none

def shifted (op : BinOp) (k : IntKind) (lx ly : Bool) (x y : Int) : Option (List Prop × RC) :=
  let r : Option RC := match op with
    | .shl => some (mkNum (lx && ly) k (k.wrap (x * 2 ^ (min y.toNat k.bits))))
    | .shr => some (mkNum (lx && ly) k (x.fdiv (2 ^ (min y.toNat k.bits))))
    | _ => none
  match r with
  | none => none
  | some r => match ly with
    | true => if y < 0 then none else some ([], r)
    | false => some ([0 ≤ y], r)

def isShift : BinOp → Bool | .shl | .shr => true | _ => false

theorem arith_sound {P : Program} {op : BinOp} {k : IntKind} {lx ly : Bool} {x y : Int} {need : List Prop} {c : RC} (hs : isShift op = false)
    (h : arith op k lx ly x y = some (need, c)) (hn : ∀ p ∈ need, p) (β : Env) (t : TypeId) (w : World) :
    ∃ v, (binOp op t (.int k x) (.int k y)).run P w = .ok v w ∧ c.is β v := by
  cases op <;> simp [isShift] at hs <;> simp [arith] at h <;> try (obtain ⟨rfl, rfl⟩ := h)
  case quo =>
    cases ly
    · simp at h; obtain ⟨rfl, rfl⟩ := h
      have h0 : y ≠ 0 := hn _ (by simp)
      exact ⟨_, by simp [binOp, Op.intDiv, h0], rfl⟩
    · simp at h; obtain ⟨h0, rfl, rfl⟩ := h
      exact ⟨_, by simp [binOp, Op.intDiv, h0], mkNum_is _ _ _ _⟩
  case rem =>
    cases ly
    · simp at h; obtain ⟨rfl, rfl⟩ := h
      have h0 : y ≠ 0 := hn _ (by simp)
      exact ⟨_, by simp [binOp, Op.intDiv, h0], rfl⟩
    · simp at h; obtain ⟨h0, rfl, rfl⟩ := h
      exact ⟨_, by simp [binOp, Op.intDiv, h0], mkNum_is _ _ _ _⟩
  all_goals first
    | (refine ⟨_, ?_, mkNum_is _ _ _ _⟩; simp [binOp, Op.intArith]; done)
    | (refine ⟨_, ?_, mkBool_is _ _ _⟩; simp [binOp, Op.intCmp]; done)
    | (refine ⟨_, ?_, mkNum_is _ _ _ _⟩; simp only [binOp, ne_eq, not_true_eq_false, if_false]; rfl)

theorem shifted_sound {P : Program} {op : BinOp} {k yk : IntKind} {lx ly : Bool} {x y : Int} {need : List Prop} {c : RC}
    (h : shifted op k lx ly x y = some (need, c)) (hn : ∀ p ∈ need, p) (β : Env) (t : TypeId) (w : World) :
    ∃ v, (binOp op t (.int k x) (.int yk y)).run P w = .ok v w ∧ c.is β v := by
  have key : ¬ y < 0 ∧ ∃ r, (match op with
    | .shl => some (mkNum (lx && ly) k (k.wrap (x * 2 ^ (min y.toNat k.bits))))
    | .shr => some (mkNum (lx && ly) k (x.fdiv (2 ^ (min y.toNat k.bits))))
    | _ => none) = some r ∧ c = r := by
    unfold shifted at h
    dsimp only at h
    split at h
    · cases h
    · rename_i r hr
      cases ly
      · simp at h; obtain ⟨rfl, rfl⟩ := h
        have h0 : 0 ≤ y := hn _ (by simp)
        exact ⟨by omega, _, hr, rfl⟩
      · simp at h; obtain ⟨h0, _, rfl⟩ := h
        exact ⟨by omega, _, hr, rfl⟩
  obtain ⟨h0, r, hr, rfl⟩ := key
  cases op <;> simp at hr <;> subst hr
  · exact ⟨_, by simp [binOp, Op.shift, h0], mkNum_is _ _ _ _⟩
  · exact ⟨_, by simp [binOp, Op.shift, h0], mkNum_is _ _ _ _⟩

/-! ### Strings -/
def RC.string? : RC → Option ByteArray
  | .str s => some s
  | .strn s _ _ => some s
  | _ => none
def TV.string? : TV → Option ByteArray | .sv (.one c) => c.string? | _ => none
theorem RC.string_is {β : Env} {c : RC} {s : ByteArray} (h : c.string? = some s) {v : Value} (r : c.is β v) : v = .string s := by
  cases c <;> simp [RC.string?] at h <;> subst h <;> exact r
theorem TV.string_is {β : Env} {c : TV} {s : ByteArray} (h : c.string? = some s) {v : Value} (r : c.is β v) : v = .string s := by
  cases c with
  | sv x => cases x with
    | one c => exact RC.string_is h r
    | agg cs => simp [TV.string?] at h
  | tup ss => simp [TV.string?] at h

theorem size_add {x y : ByteArray} {m n : Nat} (hx : x.size = m) (hy : y.size = n) : (x ++ y).size = m + n := by
  rw [ByteArray.size_append, hx, hy]

def strOp (op : BinOp) (a b : TV) : Option (List Prop × RC) :=
  match op with
  | .add => match a, b with
    | .sv (.one (.strn x m hx)), .sv (.one (.strn y n hy)) => if m + n ≤ 9223372036854775807 then some ([], .strn (x ++ y) (m + n) (size_add hx hy)) else none
    | _, _ => match a.string?, b.string? with
      | some x, some y => some ([x.size + y.size ≤ 9223372036854775807], .str (x ++ y))
      | _, _ => none
  | .eql => match a.string?, b.string? with
    | some x, some y => some ([], .bool (x.toList == y.toList))
    | _, _ => none
  | .neq => match a.string?, b.string? with
    | some x, some y => some ([], .bool (!(x.toList == y.toList)))
    | _, _ => none
  | _ => none

theorem strOp_sound {P : Program} {op : BinOp} {a b : TV} {need : List Prop} {c : RC} (h : strOp op a b = some (need, c)) (hn : ∀ p ∈ need, p)
    {β : Env} {u v : Value} (ha : a.is β u) (hb : b.is β v) (t : TypeId) (w : World) :
    ∃ r, (binOp op t u v).run P w = .ok r w ∧ c.is β r := by
  cases op <;> simp only [strOp] at h <;> try (cases h; done)
  case add =>
    split at h
    · rename_i x m hx y n hy
      split at h
      · rename_i hmn
        cases h
        have e1 : u = .string x := ha
        have e2 : v = .string y := hb
        subst e1 e2
        exact ⟨_, by simp [binOp, Op.stringOp, hx, hy, IntKind.max, IntKind.signed, IntKind.bits]; omega, rfl⟩
      · cases h
    · split at h
      · rename_i x y hx hy
        cases h
        have e1 := TV.string_is hx ha
        have e2 := TV.string_is hy hb
        have h0 : x.size + y.size ≤ 9223372036854775807 := hn _ (by simp)
        subst e1 e2
        exact ⟨_, by simp [binOp, Op.stringOp, IntKind.max, IntKind.signed, IntKind.bits]; omega, rfl⟩
      · cases h
  case eql =>
    split at h
    · rename_i x y hx hy
      cases h
      have e1 := TV.string_is hx ha
      have e2 := TV.string_is hy hb
      subst e1 e2
      exact ⟨_, by simp [binOp, Op.stringOp], rfl⟩
    · cases h
  case neq =>
    split at h
    · rename_i x y hx hy
      cases h
      have e1 := TV.string_is hx ha
      have e2 := TV.string_is hy hb
      subst e1 e2
      exact ⟨_, by simp [binOp, Op.stringOp], rfl⟩
    · cases h

/-! ### Bools -/
def TV.bool? : TV → Option (Bool × Bool)
  | .sv (.one (.blit b)) => some (true, b)
  | .sv (.one (.bool b)) => some (false, b)
  | _ => none
theorem TV.bool_is {β : Env} {c : TV} {l b : Bool} (h : c.bool? = some (l, b)) {v : Value} (r : c.is β v) : v = .bool b := by
  unfold TV.bool? at h
  split at h <;> simp at h
  all_goals (obtain ⟨_, rfl⟩ := h; exact r)

/-! ### Parts of an aggregate -/
def isAggT (P : Program) (t : TypeId) : Option Bool := (P.underlying t).map fun | .struct _ | .array _ _ => true | _ => false
def partC (P : Program) (t : TypeId) (cs : List RC) (off : Nat) : Option SV :=
  match isAggT P t with
  | some true => (P.info? t).map fun i => .agg ((cs.drop off).take i.size)
  | some false => (cs[off]?).map .one
  | none => none

theorem run_isAgg {P : Program} {t : TypeId} {b : Bool} (h : isAggT P t = some b) (w : World) : (isAgg t).run P w = .ok b w := by
  unfold isAggT at h
  cases hu : P.underlying t with
  | none => rw [hu] at h; cases h
  | some d =>
    rw [hu] at h
    simp [isAgg, run_underlying hu]
    cases d <;> simp at h <;> subst h <;> rfl
theorem run_sizeOf' {P : Program} {t : TypeId} {i : TypeInfo} (h : P.info? t = some i) (w : World) : (sizeOf t).run P w = .ok i.size w := by
  simp [sizeOf, typeInfo, h]

theorem partC_sound {P : Program} {t : TypeId} {cs : List RC} {off : Nat} {s : SV} (h : partC P t cs off = some s) {β : Env} {vs : List Value} (r : all2 (RC.is β) cs vs) (w : World) :
    ∃ v, (part t ⟨vs⟩ off).run P w = .ok v w ∧ s.is β v := by
  unfold partC at h
  split at h
  · rename_i ha
    cases hi : P.info? t with
    | none => rw [hi] at h; cases h
    | some i =>
      rw [hi] at h; simp at h; subst h
      refine ⟨.agg ⟨(vs.drop off).take i.size⟩, ?_, _, rfl, all2_take _ (all2_drop _ r)⟩
      simp [part, run_isAgg ha, run_sizeOf' hi]
  · rename_i ha
    cases hc : cs[off]? with
    | none => rw [hc] at h; cases h
    | some c =>
      rw [hc] at h; simp at h; subst h
      obtain ⟨v, hv, rv⟩ := all2_get off r hc
      exact ⟨v, by simp [part, run_isAgg ha, hv], rv⟩
  · cases h

end Go.Proofs.Ytihmhnfjdkkbgaa.RX
