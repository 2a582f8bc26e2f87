/- RX, part F: 'pureOp': every operation that only computes, right for every world. -/
import Derived.Test.YtihmhnfjdkkbgaaRxE
noncomputable section
namespace Go.Proofs.Ytihmhnfjdkkbgaa.RX
set_option linter.unusedSimpArgs false
open Go Go.RowKit

/-- Whether a pointer (false) or a slice (true) is nil. -/
def RC.nil? : RC → Option (Bool × Bool)
  | .val (.pointer none) => some (false, true)
  | .ptr _ _ => some (false, false)
  | .fpt _ _ _ _ => some (false, false)
  | .sqp _ _ => some (false, false)
  | .co _ _ => some (false, false)
  | .val (.slice none 0 0) => some (true, true)
  | .slc _ _ _ _ => some (true, false)
  | .frz _ _ _ => some (true, false)
  | _ => none
theorem RC.nil_is {β : Env} {c : RC} {s n : Bool} {v : Value} (h : c.nil? = some (s, n)) (r : c.is β v) : (s = false ∧ ∃ o, v = .pointer o ∧ o.isNone = n) ∨ (s = true ∧ ∃ o l k, v = .slice o l k ∧ o.isNone = n) := by
  unfold RC.nil? at h
  split at h <;> first | (cases h; done) | cases h
  · exact .inl ⟨rfl, none, r, rfl⟩
  · obtain ⟨b, _, e⟩ := r; exact .inl ⟨rfl, _, e, rfl⟩
  · obtain ⟨b, off, e, _⟩ := r; exact .inl ⟨rfl, _, e, rfl⟩
  · obtain ⟨b, _, e⟩ := r; exact .inl ⟨rfl, _, e, rfl⟩
  · obtain ⟨b, e, _⟩ := r; exact .inl ⟨rfl, _, e, rfl⟩
  · exact .inr ⟨rfl, none, 0, 0, r, rfl⟩
  · obtain ⟨b, c, _, _, _, _, e⟩ := r; exact .inr ⟨rfl, _, _, _, e, rfl⟩
  · obtain ⟨b, off, c, _, e, _⟩ := r; exact .inr ⟨rfl, _, _, _, e, rfl⟩
def TV.nil? : TV → Option (Bool × Bool)
  | .sv (.one c) => c.nil?
  | _ => none
def nilKind : Option TypeDesc → Option Bool
  | some (.pointer _) => some false
  | some (.slice _) => some true
  | _ => none
def nilEq (P : Program) (op : BinOp) (t : TypeId) (a b : TV) : Option RC :=
  match nilKind (P.underlying t), a.nil?, b.nil? with
  | some k, some (s, x), some (s', y) => if k = s ∧ k = s' ∧ (x || y) = true then (match op with
      | .eql => some (.blit (x && y))
      | .neq => some (.blit (!(x && y)))
      | _ => none)
    else none
  | _, _, _ => none
theorem run_equalIn_ptrs {P : Program} {t e : TypeId} (w : World) (d : Nat) (hu : P.underlying t = some (.pointer e)) (o o' : Option Addr) (h : (o.isNone || o'.isNone) = true) : (Op.equalIn (d + 1) t (.pointer o) (.pointer o')).run P w = .ok (o.isNone && o'.isNone) w := by
  cases o <;> cases o' <;> first | (simp at h; done) | simp [Op.equalIn, run_underlying hu]
theorem run_equalIn_slices {P : Program} {t e : TypeId} (w : World) (d : Nat) (hu : P.underlying t = some (.slice e)) (o o' : Option Addr) (l m l' m' : Nat) (h : (o.isNone || o'.isNone) = true) : (Op.equalIn (d + 1) t (.slice o l m) (.slice o' l' m')).run P w = .ok (o.isNone && o'.isNone) w := by
  cases o <;> cases o' <;> first | (simp at h; done) | simp [Op.equalIn, run_underlying hu]
theorem nilEq_sound {P : Program} {op : BinOp} {t : TypeId} {a b : TV} {c : RC} (h : nilEq P op t a b = some c) {β : Env} {u v : Value} (ra : a.is β u) (rb : b.is β v) (w : World) (o1 o2 : Operand) :
    ∃ r, (do eqGuard op t o1 o2 u v; binOp op t u v : Sem Value).run P w = .ok r w ∧ c.is β r := by
  unfold nilEq at h
  split at h <;> try (cases h; done)
  rename_i k s x s' y hk ha hb
  split at h <;> try (cases h; done)
  rename_i hc
  obtain ⟨rfl, rfl, hxy⟩ := hc
  have ha' : ∃ c', a = .sv (.one c') ∧ c'.nil? = some (k, x) := by
    unfold TV.nil? at ha
    split at ha
    · exact ⟨_, rfl, ha⟩
    · cases ha
  have hb' : ∃ c', b = .sv (.one c') ∧ c'.nil? = some (k, y) := by
    unfold TV.nil? at hb
    split at hb
    · exact ⟨_, rfl, hb⟩
    · cases hb
  obtain ⟨ca, rfl, ha⟩ := ha'
  obtain ⟨cb, rfl, hb⟩ := hb'
  have heq : (Op.equal t u v).run P w = .ok (x && y) w ∧ (eqGuard op t o1 o2 u v).run P w = .ok () w ∧ (op = .eql ∨ op = .neq → binOp op t u v = (match op with | .eql => (do pure (.bool (← Op.equal t u v))) | _ => (do pure (.bool (!(← Op.equal t u v)))) : Sem Value)) := by
    rcases RC.nil_is ha ra with ⟨hs, o, rfl, ho⟩ | ⟨hs, o, l, m, rfl, ho⟩ <;> rcases RC.nil_is hb rb with ⟨hs', o', rfl, ho'⟩ | ⟨hs', o', l', m', rfl, ho'⟩ <;> first | (rw [hs] at hs'; cases hs'; done) | skip
    · subst hs
      have hu : ∃ e, P.underlying t = some (.pointer e) := by
        unfold nilKind at hk
        split at hk <;> first | (cases hk; done) | exact ⟨_, by assumption⟩
      obtain ⟨e, hu⟩ := hu
      refine ⟨?_, ?_, ?_⟩
      · subst ho; subst ho'
        exact run_equalIn_ptrs w 9999 hu o o' hxy
      · cases op <;> rfl
      · rintro (rfl | rfl) <;> rfl
    · subst hs
      have hu : ∃ e, P.underlying t = some (.slice e) := by
        unfold nilKind at hk
        split at hk <;> first | (cases hk; done) | exact ⟨_, by assumption⟩
      obtain ⟨e, hu⟩ := hu
      refine ⟨?_, ?_, ?_⟩
      · subst ho; subst ho'
        exact run_equalIn_slices w 9999 hu o o' l m l' m' hxy
      · cases op <;> rfl
      · rintro (rfl | rfl) <;> rfl
  obtain ⟨h1, h2, h3⟩ := heq
  simp only [Sem.run_bind, h2, Result.andThen_ok]
  cases op <;> try (cases h; done)
  · cases h
    rw [h3 (.inl rfl)]
    exact ⟨.bool (x && y), by simp [h1], rfl⟩
  · cases h
    rw [h3 (.inr rfl)]
    exact ⟨.bool (!(x && y)), by simp [h1], rfl⟩

def binOpC (P : Program) (op : BinOp) (t : TypeId) (a b : TV) : Option (List Prop × TV) :=
  match a.num, b.num with
  | some (lx, k, x), some (ly, k', y) =>
    if isShift op = true then (shifted op k lx ly x y).map fun r => (r.1, .sv (.one r.2))
    else if k = k' then (arith op k lx ly x y).map fun r => (r.1, .sv (.one r.2)) else none
  | _, _ => match a.string?, b.string? with
    | some _, some _ => (strOp op a b).map fun r => (r.1, .sv (.one r.2))
    | _, _ => match a.bool?, b.bool?, P.underlying t with
      | some (lx, x), some (ly, y), some .bool => match op with
        | .eql => some ([], .sv (.one (mkBool (lx && ly) (x == y))))
        | .neq => some ([], .sv (.one (mkBool (lx && ly) (!(x == y)))))
        | _ => none
      | _, _, _ => match nilEq P op t a b with
        | some c => some ([], .sv (.one c))
        | none => (eqAgg P op t a b).map fun c => ([], .sv (.one c))

theorem guard_plain {P : Program} {op : BinOp} {t : TypeId} {o1 o2 : Operand} {u v : Value} (hu : u.oneCell' = true) (h2 : u ≠ .nilIface) (w : World) : (eqGuard op t o1 o2 u v).run P w = .ok () w := by
  cases op <;> simp only [eqGuard, Bool.not_true, Bool.false_eq_true, if_false, Sem.run_pure, Bool.not_false, if_true] <;> try rfl
  all_goals (cases u <;> first | (simp [Value.oneCell'] at hu; done) | (exact absurd rfl h2) | (cases v <;> rfl))

theorem binOpC_sound {P : Program} {op : BinOp} {t : TypeId} {a b : TV} {need : List Prop} {tv : TV} (h : binOpC P op t a b = some (need, tv)) (hn : ∀ p ∈ need, p) {β : Env} {u v : Value} (ra : a.is β u) (rb : b.is β v) (w : World) (o1 o2 : Operand) :
    ∃ r, (do eqGuard op t o1 o2 u v; binOp op t u v : Sem Value).run P w = .ok r w ∧ tv.is β r := by
  unfold binOpC at h
  split at h
  · rename_i lx k x ly k' y h1 h2
    have e1 := TV.num_is h1 ra
    have e2 := TV.num_is h2 rb
    subst e1 e2
    simp only [Sem.run_bind, guard_plain (P := P) (op := op) (t := t) (o1 := o1) (o2 := o2) (u := .int k x) (v := .int k' y) rfl (by simp) w, Result.andThen_ok]
    split at h
    · cases hs : shifted op k lx ly x y with
      | none => rw [hs] at h; cases h
      | some r =>
        obtain ⟨nd, c⟩ := r
        rw [hs] at h; cases h
        exact shifted_sound hs hn β t w
    · rename_i hsh
      split at h
      · rename_i hk
        subst hk
        cases hs : arith op k lx ly x y with
        | none => rw [hs] at h; cases h
        | some r =>
          obtain ⟨nd, c⟩ := r
          rw [hs] at h; cases h
          exact arith_sound (by simpa using hsh) hs hn β t w
      · cases h
  · split at h
    · rename_i x y h1 h2
      have e1 := TV.string_is h1 ra
      have e2 := TV.string_is h2 rb
      cases hs : strOp op a b with
      | none => rw [hs] at h; cases h
      | some r =>
        obtain ⟨nd, c⟩ := r
        rw [hs] at h; cases h
        obtain ⟨r, hr, hc⟩ := strOp_sound (P := P) hs hn ra rb t w
        refine ⟨r, ?_, hc⟩
        subst e1 e2
        simp only [Sem.run_bind, guard_plain (P := P) (op := op) (t := t) (o1 := o1) (o2 := o2) (u := .string x) (v := .string y) rfl (by simp) w, Result.andThen_ok, hr]
    · split at h
      · rename_i lx x ly y h1 h2 hu
        have e1 := TV.bool_is h1 ra
        have e2 := TV.bool_is h2 rb
        subst e1 e2
        simp only [Sem.run_bind, guard_plain (P := P) (op := op) (t := t) (o1 := o1) (o2 := o2) (u := .bool x) (v := .bool y) rfl (by simp) w, Result.andThen_ok]
        have he := run_equal_bool (P := P) w t x y hu
        cases op <;> simp at h
        · obtain ⟨rfl, rfl⟩ := h
          exact ⟨.bool (x == y), by simp [binOp, he], mkBool_is _ _ _⟩
        · obtain ⟨rfl, rfl⟩ := h
          exact ⟨.bool (!(x == y)), by simp [binOp, he], mkBool_is _ _ _⟩
      · split at h
        · rename_i c hs
          cases h
          exact nilEq_sound hs ra rb w o1 o2
        · cases hs : eqAgg P op t a b with
          | none => rw [hs] at h; cases h
          | some c =>
            rw [hs] at h; cases h
            exact eqAgg_sound hs ra rb w o1 o2

def unOpC (op : UnOp) (x : TV) : Option TV :=
  match op with
  | .not => match x.bool? with
    | some (l, b) => some (.sv (.one (mkBool l (!b))))
    | none => none
  | .neg => match x.num with
    | some (l, k, n) => some (.sv (.one (mkNum l k (k.wrap (0 - n)))))
    | none => none
  | .xor => match x.num with
    | some (l, k, n) => some (.sv (.one (mkNum l k (bits .xor k (if k.signed then -1 else k.max) n))))
    | none => none
  | _ => none
theorem unOpC_sound {P : Program} {op : UnOp} {x tv : TV} (h : unOpC op x = some tv) {β : Env} {u : Value} (r : x.is β u) (w : World) : ∃ v, (Op.unary op u).run P w = .ok v w ∧ tv.is β v := by
  cases op <;> simp only [unOpC] at h <;> try (cases h; done)
  case not =>
    split at h
    · rename_i l b hb
      cases h
      have e := TV.bool_is hb r
      subst e
      exact ⟨.bool (!b), rfl, mkBool_is _ _ _⟩
    · cases h
  case neg =>
    split at h
    · rename_i l k n hb
      cases h
      have e := TV.num_is hb r
      subst e
      exact ⟨.int k (k.wrap (0 - n)), rfl, mkNum_is _ _ _ _⟩
    · cases h
  case xor =>
    split at h
    · rename_i l k n hb
      cases h
      have e := TV.num_is hb r
      subst e
      exact ⟨.int k (bits .xor k (if k.signed then -1 else k.max) n), rfl, mkNum_is _ _ _ _⟩
    · cases h

def convertC (P : Program) (src dst : TypeId) (x : TV) : Option TV :=
  match P.underlying src, P.underlying dst with
  | some _, some (.int k) => match x.num with
    | some (l, _, n) => some (.sv (.one (mkNum l k (k.wrap n))))
    | none => none
  | some _, some .string => match x.string? with
    | some _ => some x
    | none => none
  | _, _ => none
theorem convertC_sound {P : Program} {src dst : TypeId} {x tv : TV} (h : convertC P src dst x = some tv) {β : Env} {u : Value} (r : x.is β u) (w : World) : ∃ v, (convert src dst u).run P w = .ok v w ∧ tv.is β v := by
  unfold convertC at h
  split at h
  · rename_i d k hs hd
    split at h
    · rename_i l k' n hb
      cases h
      have e := TV.num_is hb r
      subst e
      exact ⟨.int k (k.wrap n), by simp [convert, run_underlying hs, run_underlying hd, Conv.intToInt], mkNum_is _ _ _ _⟩
    · cases h
  · rename_i d hs hd
    split at h
    · rename_i s hb
      cases h
      have e := TV.string_is hb r
      subst e
      exact ⟨.string s, by cases d <;> simp [convert, run_underlying hs, run_underlying hd], r⟩
    · cases h
  · cases h

def arrPtrC (P : Program) (arr : TypeId) (x : TV) : Option TV :=
  match P.underlying arr, x with
  | some (.array n _), .sv (.one (.slc b off len _)) => if n ≤ len then some (.sv (.one (.ptr b off))) else none
  | some (.array n _), .sv (.one (.frz k L len)) => if n ≤ len ∧ 0 < len then some (.sv (.one (.fpt k L len 0))) else none
  | _, _ => none
theorem arrPtrC_sound {P : Program} {arr : TypeId} {x tv : TV} (h : arrPtrC P arr x = some tv) {β : Env} {u : Value} (r : x.is β u) (w : World) : ∃ v, (Instr.arrayAt arr u).run P w = .ok v w ∧ tv.is β v := by
  unfold arrPtrC at h
  split at h
  · rename_i n e b off len cap hu
    split at h
    · rename_i hle
      cases h
      obtain ⟨k, c, hb, _, _, _, e⟩ := r
      subst e
      exact ⟨_, by simp [Instr.arrayAt, run_underlying hu]; omega, k, hb, rfl⟩
    · cases h
  · rename_i n e k L len hu
    split at h
    · rename_i hle
      cases h
      obtain ⟨b, off, c, h1, e, hf⟩ := r
      subst e
      exact ⟨.pointer (some ⟨b, off, none⟩), by simp [Instr.arrayAt, run_underlying hu]; omega, b, off, by simp, hle.2, hf⟩
    · cases h
  · cases h

def capsC (ρ : Operand → Option TV) : List Operand → Option (List (Nat × Nat))
  | [] => some []
  | x :: r => match ρ x, capsC ρ r with
    | some (.sv (.one (.ptr n off))), some l => some ((n, off) :: l)
    | _, _ => none
theorem capsC_sound {ρ : Operand → Option TV} {β : Env} {e : Operand → Value} (hρ : ∀ x tv, ρ x = some tv → tv.is β (e x)) : ∀ {l : List Operand} {out : List (Nat × Nat)}, capsC ρ l = some out → all2 (capIs β) out (l.map e)
  | [], out, h => by simp [capsC] at h; subst h; trivial
  | x :: r, out, h => by
    unfold capsC at h
    split at h
    · rename_i n off l h1 h2
      cases h
      exact ⟨hρ _ _ h1, capsC_sound hρ h2⟩
    · cases h

def optv (ρ : Operand → Option TV) : Option Operand → Option (Option TV)
  | none => some none
  | some x => match ρ x with
    | some tv => some (some tv)
    | none => none
theorem optv_is {ρ : Operand → Option TV} {β : Env} {e : Operand → Value} (hρ : ∀ x tv, ρ x = some tv → tv.is β (e x)) {o : Option Operand} {r : Option TV} (h : optv ρ o = some r) : optIs β r (o.map e) := by
  cases o with
  | none => simp [optv] at h; subst h; trivial
  | some x =>
    simp only [optv] at h
    split at h
    · rename_i tv hx; cases h; exact hρ x tv hx
    · cases h

def lenC (P : Program) (t : TypeId) (x : TV) : Option TV :=
  match P.underlying t, x with
  | some .string, .sv (.one (.strn _ m _)) => some (.sv (.one (.lit .i64 m)))
  | some .string, .sv (.one (.str s)) => some (.sv (.one (.int .i64 s.size)))
  | some (.array n _), _ => some (.sv (.one (.lit .i64 n)))
  | some (.slice _), .sv (.one (.slc _ _ len _)) => some (.sv (.one (.lit .i64 len)))
  | some (.slice _), .sv (.one (.frz _ _ len)) => some (.sv (.one (.lit .i64 len)))
  | some (.slice _), .sv (.one (.val (.slice none 0 0))) => some (.sv (.one (.lit .i64 0)))
  | some (.slice _), .sv (.one (.sq _ len)) => some (.sv (.one (.int .i64 len)))
  | some (.slice _), .sv (.one (.sqs _ lo hi)) => some (.sv (.one (.int .i64 (hi - lo : Nat))))
  | _, _ => none
theorem lenC_sound {P : Program} {t : TypeId} {x tv : TV} (h : lenC P t x = some tv) {β : Env} {u : Value} (r : x.is β u) (ty : TypeId) (w : World) : ∃ v, (Builtin.len_ #[t] ty #[u]).run P w = .ok v w ∧ tv.is β v := by
  unfold lenC at h
  split at h
  · rename_i s m hs hu
    cases h
    have e : u = .string s := r
    subst e
    exact ⟨.int .i64 m, by simp [Builtin.len_, run_underlying hu, goInt, hs], rfl⟩
  · rename_i s hu
    cases h
    have e : u = .string s := r
    subst e
    exact ⟨.int .i64 s.size, by simp [Builtin.len_, run_underlying hu, goInt], rfl⟩
  · rename_i n e hu
    cases h
    exact ⟨.int .i64 n, by simp [Builtin.len_, run_underlying hu, goInt], rfl⟩
  · rename_i e b off len cap hu
    cases h
    obtain ⟨k, c, hb, _, _, _, e⟩ := r
    subst e
    exact ⟨.int .i64 len, by simp [Builtin.len_, run_underlying hu, goInt], rfl⟩
  · rename_i e k L len hu
    cases h
    obtain ⟨b, off, c, _, e, _⟩ := r
    subst e
    exact ⟨.int .i64 len, by simp [Builtin.len_, run_underlying hu, goInt], rfl⟩
  · rename_i e hu
    cases h
    have e : u = .slice none 0 0 := r
    subst e
    exact ⟨.int .i64 0, by simp [Builtin.len_, run_underlying hu, goInt], rfl⟩
  · rename_i e n len hu
    cases h
    rcases r with ⟨b, c, _, _, _, e⟩ | ⟨e0, e⟩
    · subst e
      exact ⟨.int .i64 len, by simp [Builtin.len_, run_underlying hu, goInt], rfl⟩
    · subst e; subst e0
      exact ⟨.int .i64 (0 : Nat), by simp [Builtin.len_, run_underlying hu, goInt], rfl⟩
  · rename_i e n lo hi hu
    cases h
    rcases r with ⟨_, b, c, _, _, e⟩ | ⟨el, c, e | ⟨b, o, e⟩⟩
    · subst e
      exact ⟨.int .i64 (hi - lo : Nat), by simp [Builtin.len_, run_underlying hu, goInt], rfl⟩
    · subst e; subst el
      exact ⟨.int .i64 (lo - lo : Nat), by simp [Builtin.len_, run_underlying hu, goInt], rfl⟩
    · subst e; subst el
      exact ⟨.int .i64 (lo - lo : Nat), by simp [Builtin.len_, run_underlying hu, goInt], rfl⟩
  · cases h

def minC (a b : TV) : Option TV :=
  match a.num, b.num with
  | some (lx, k, x), some (ly, _, y) => some (.sv (.one (mkNum (lx && ly) k (if y < x then y else x))))
  | _, _ => none
def maxC (a b : TV) : Option TV :=
  match a.num, b.num with
  | some (lx, k, x), some (ly, _, y) => some (.sv (.one (mkNum (lx && ly) k (if y > x then y else x))))
  | _, _ => none
theorem minC_sound {P : Program} {a b tv : TV} (h : minC a b = some tv) {β : Env} {u v : Value} (ra : a.is β u) (rb : b.is β v) (ts : Array TypeId) (ty : TypeId) (w : World) : ∃ r, (Builtin.min_ ts ty #[u, v]).run P w = .ok r w ∧ tv.is β r := by
  unfold minC at h
  split at h
  · rename_i lx k x ly k' y h1 h2
    cases h
    have e1 := TV.num_is h1 ra
    have e2 := TV.num_is h2 rb
    subst e1 e2
    exact ⟨.int k (if y < x then y else x), by simp [Builtin.min_, Builtin.min2], mkNum_is _ _ _ _⟩
  · cases h
theorem maxC_sound {P : Program} {a b tv : TV} (h : maxC a b = some tv) {β : Env} {u v : Value} (ra : a.is β u) (rb : b.is β v) (ts : Array TypeId) (ty : TypeId) (w : World) : ∃ r, (Builtin.max_ ts ty #[u, v]).run P w = .ok r w ∧ tv.is β r := by
  unfold maxC at h
  split at h
  · rename_i lx k x ly k' y h1 h2
    cases h
    have e1 := TV.num_is h1 ra
    have e2 := TV.num_is h2 rb
    subst e1 e2
    exact ⟨.int k (if y > x then y else x), by simp [Builtin.max_, Builtin.max2], mkNum_is _ _ _ _⟩
  · cases h

/-- Every operation that only computes. -/
def pureOp (P : Program) (ρ : Operand → Option TV) (op : Op) : Option (List Prop × TV) :=
  match op with
  | .move x | .assign x => (ρ x).map fun tv => ([], tv)
  | .pick c a b => match (ρ c).bind TV.bool? with
    | some (true, true) => (ρ a).map fun tv => ([], tv)
    | some (true, false) => (ρ b).map fun tv => ([], tv)
    | _ => none
  | .build t parts => buildOp P ρ t parts
  | .nilCheck x => match ρ x with
    | some (.sv (.one (.ptr n off))) => some ([], .sv (.one (.ptr n off)))
    | some (.sv (.one (.fn f caps))) => some ([], .sv (.one (.fn f caps)))
    | some (.sv (.one (.fpt k L n j))) => some ([], .sv (.one (.fpt k L n j)))
    | some (.sv (.one (.sqp n j))) => some ([], .sv (.one (.sqp n j)))
    | some (.sv (.one (.co cs off))) => some ([], .sv (.one (.co cs off)))
    | some (.sv (.one (.clo f caps))) => some ([], .sv (.one (.clo f caps)))
    | _ => none
  | .binOp op t x y _ => match ρ x, ρ y with
    | some a, some b => binOpC P op t a b
    | _, _ => none
  | .unOp op _ x => match ρ x with
    | some a => (unOpC op a).map fun tv => ([], tv)
    | none => none
  | .convert src dst x => match ρ x with
    | some a => (convertC P src dst a).map fun tv => ([], tv)
    | none => none
  | .sliceToArrayPointer arr x => match ρ x with
    | some a => (arrPtrC P arr a).map fun tv => ([], tv)
    | none => none
  | .makeFunc (.func f) first captured => if first.size = 0 then (capsC ρ captured.toList).map fun l => ([], .sv (.one (.fn f l))) else none
  | .slice t x lo hi none => match ρ x, optv ρ lo, optv ρ hi with
    | some a, some l, some h => match P.underlying t with
      | some .string => sliceStr a l h
      | _ => match a with
        | .sv (.one (.sq n len)) => sliceSeq P t n len l h
        | _ => (sliceMem P t a l h).map fun tv => ([], tv)
    | _, _, _ => none
  | .fieldAddr s x f => match ρ x with
    | some a => (fieldAddrOp P s a f).map fun tv => ([], tv)
    | none => none
  | .field t x f => match ρ x with
    | some a => (fieldOp P t a f).map fun tv => ([], tv)
    | none => none
  | .indexAddr t x ix => match ρ x, ρ ix with
    | some (.sv (.one (.sq n len))), some b => indexSeq P t n len b
    | some (.sv (.one (.ptr n off))), some b => (match natLit b with
      | some _ => (indexAddrOp P t (.sv (.one (.ptr n off))) b).map fun tv => ([], tv)
      | none => indexArr P t n off b)
    | some (.sv (.one (.co cs off))), some b => (match natLit b with
      | some _ => (indexAddrOp P t (.sv (.one (.co cs off))) b).map fun tv => ([], tv)
      | none => indexCo P t cs off b)
    | some (.sv (.one (.slc n off len cap))), some b => (match natLit b with
      | some _ => (indexAddrOp P t (.sv (.one (.slc n off len cap))) b).map fun tv => ([], tv)
      | none => indexSlc P t n off len b)
    | some a, some b => (indexAddrOp P t a b).map fun tv => ([], tv)
    | _, _ => none
  | .index t x ix => match ρ x, ρ ix with
    | some a, some b => indexOp P t a b
    | _, _ => none
  | .extract t ix => match ρ t with
    | some (.tup vs) => (vs[ix]?).map fun s => ([], .sv s)
    | _ => none
  | .call { callee := .builtin b, args, argTypes } => match b, args.toList, argTypes.toList with
    | .len, [x], [t] => match ρ x with
      | some a => (lenC P t a).map fun tv => ([], tv)
      | none => none
    | .min, [x, y], _ => match ρ x, ρ y with
      | some a, some b => (minC a b).map fun tv => ([], tv)
      | _, _ => none
    | .max, [x, y], _ => match ρ x, ρ y with
      | some a, some b => (maxC a b).map fun tv => ([], tv)
      | _, _ => none
    | _, _, _ => none
  | _ => none

theorem map_pair {α : Type} {o : Option α} {need : List Prop} {f : α → TV} {tv : TV} (h : (o.map fun a => (([] : List Prop), f a)) = some (need, tv)) : ∃ a, o = some a ∧ tv = f a := by
  cases o with
  | none => cases h
  | some a => cases h; exact ⟨a, rfl, rfl⟩

theorem pureOp_sound {P : Program} {ρ : Operand → Option TV} {β : Env} {e : Operand → Value} (hρ : ∀ x tv, ρ x = some tv → tv.is β (e x)) {o : Oper} {need : List Prop} {tv : TV}
    (h : pureOp P ρ o.op = some (need, tv)) (hn : ∀ p ∈ need, p) (w : World) : ∃ v, (execOp e o).run P w = .ok (.value v) w ∧ tv.is β v := by
  obtain ⟨dst, op, type, pos, after, guard⟩ := o
  dsimp only at h
  unfold pureOp at h
  split at h
  · rename_i x
    obtain ⟨a, h1, rfl⟩ := map_pair h
    exact ⟨e x, rfl, hρ _ _ h1⟩
  · rename_i x
    obtain ⟨a, h1, rfl⟩ := map_pair h
    exact ⟨e x, rfl, hρ _ _ h1⟩
  · rename_i c a b
    split at h
    · rename_i hc
      obtain ⟨tc, hc1, hc2⟩ := Option.bind_eq_some_iff.1 hc
      obtain ⟨ta, h1, rfl⟩ := map_pair h
      have ec := TV.bool_is hc2 (hρ _ _ hc1)
      exact ⟨e a, by simp [execOp, ec, asBool], hρ _ _ h1⟩
    · rename_i hc
      obtain ⟨tc, hc1, hc2⟩ := Option.bind_eq_some_iff.1 hc
      obtain ⟨ta, h1, rfl⟩ := map_pair h
      have ec := TV.bool_is hc2 (hρ _ _ hc1)
      exact ⟨e b, by simp [execOp, ec, asBool], hρ _ _ h1⟩
    · cases h
  · rename_i t parts
    obtain ⟨v, hv, r⟩ := buildOp_sound hρ h w
    refine ⟨v, ?_, r⟩
    simp only [execOp, Sem.run_bind, hv, Result.andThen_ok, Sem.run_pure]
  · rename_i x
    split at h
    · rename_i n off hx
      cases h
      obtain ⟨b, hb, ev⟩ := hρ _ _ hx
      exact ⟨_, by simp only [execOp, ev]; rfl, b, hb, rfl⟩
    · rename_i f caps hx
      cases h
      obtain ⟨vs, hb, ev⟩ := hρ _ _ hx
      exact ⟨_, by simp only [execOp, ev]; rfl, vs, hb, rfl⟩
    · rename_i k L n j hx
      cases h
      obtain ⟨b, off, ev, hj, hf⟩ := hρ _ _ hx
      exact ⟨_, by simp only [execOp, ev]; rfl, b, off, rfl, hj, hf⟩
    · rename_i n j hx
      cases h
      obtain ⟨b, hb, ev⟩ := hρ _ _ hx
      exact ⟨_, by simp only [execOp, ev]; rfl, b, hb, rfl⟩
    · rename_i cs off hx
      cases h
      have hr := hρ _ _ hx
      have hr2 := hr
      simp only [TV.is, SV.is, RC.is, CV.is] at hr
      obtain ⟨b, ev, _⟩ := hr
      rw [ev] at hr2
      exact ⟨_, by simp only [execOp, ev]; rfl, hr2⟩
    · rename_i f caps hx
      cases h
      have hr := hρ _ _ hx
      have hr2 := hr
      simp only [TV.is, SV.is, RC.is, CV.is] at hr
      obtain ⟨b, ev, _⟩ := hr
      rw [ev] at hr2
      exact ⟨_, by simp only [execOp, ev]; rfl, hr2⟩
    · cases h
  · rename_i op t x y yt
    split at h
    · rename_i a b ha hb
      obtain ⟨v, hv, r⟩ := binOpC_sound h hn (hρ _ _ ha) (hρ _ _ hb) w x y
      refine ⟨v, ?_, r⟩
      simp only [execOp]
      rw [Sem.run_bind, hv]; rfl
    · cases h
  · rename_i op t x
    split at h
    · rename_i a ha
      obtain ⟨tv', h1, rfl⟩ := map_pair h
      obtain ⟨v, hv, r⟩ := unOpC_sound (P := P) h1 (hρ _ _ ha) w
      exact ⟨v, by simp only [execOp]; rw [Sem.run_bind, hv]; rfl, r⟩
    · cases h
  · rename_i src d x
    split at h
    · rename_i a ha
      obtain ⟨tv', h1, rfl⟩ := map_pair h
      obtain ⟨v, hv, r⟩ := convertC_sound h1 (hρ _ _ ha) w
      exact ⟨v, by simp only [execOp]; rw [Sem.run_bind, hv]; rfl, r⟩
    · cases h
  · rename_i arr x
    split at h
    · rename_i a ha
      obtain ⟨tv', h1, rfl⟩ := map_pair h
      obtain ⟨v, hv, r⟩ := arrPtrC_sound h1 (hρ _ _ ha) w
      exact ⟨v, by simp only [execOp]; rw [Sem.run_bind, hv]; rfl, r⟩
    · cases h
  · rename_i f first captured
    split at h
    · rename_i h0
      obtain ⟨l, h1, rfl⟩ := map_pair h
      refine ⟨_, by simp only [execOp, Instr.makeFunc]; rfl, _, capsC_sound hρ h1, ?_⟩
      have : first = #[] := Array.eq_empty_of_size_eq_zero h0
      subst this
      cases captured
      simp
    · cases h
  · rename_i t x lo hi
    split at h
    · rename_i a l hh ha hl hhh
      split at h
      · rename_i hu
        obtain ⟨v, hv, r⟩ := sliceStr_sound hu h hn (hρ _ _ ha) (optv_is hρ hl) (optv_is hρ hhh) w
        exact ⟨v, by simp only [execOp, Option.map_none]; rw [Sem.run_bind, hv]; rfl, r⟩
      · split at h
        · rename_i n len
          obtain ⟨v, hv, r⟩ := sliceSeq_sound h hn (hρ _ _ ha) (optv_is hρ hl) (optv_is hρ hhh) w
          exact ⟨v, by simp only [execOp, Option.map_none]; rw [Sem.run_bind, hv]; rfl, r⟩
        · obtain ⟨tv', h1, rfl⟩ := map_pair h
          obtain ⟨v, hv, r⟩ := sliceMem_sound h1 (hρ _ _ ha) (optv_is hρ hl) (optv_is hρ hhh) w
          exact ⟨v, by simp only [execOp, Option.map_none]; rw [Sem.run_bind, hv]; rfl, r⟩
    · cases h
  · rename_i s x f
    split at h
    · rename_i a ha
      obtain ⟨tv', h1, rfl⟩ := map_pair h
      obtain ⟨v, hv, r⟩ := fieldAddrOp_sound h1 (hρ _ _ ha) w
      exact ⟨v, by simp only [execOp]; rw [Sem.run_bind, hv]; rfl, r⟩
    · cases h
  · rename_i t x f
    split at h
    · rename_i a ha
      obtain ⟨tv', h1, rfl⟩ := map_pair h
      obtain ⟨v, hv, r⟩ := fieldOp_sound h1 (hρ _ _ ha) w
      exact ⟨v, by simp only [execOp]; rw [Sem.run_bind, hv]; rfl, r⟩
    · cases h
  · rename_i t x ix
    split at h
    · rename_i n len b ha hb
      obtain ⟨v, hv, r⟩ := indexSeq_sound h hn (hρ _ _ ha) (hρ _ _ hb) w
      exact ⟨v, by simp only [execOp]; rw [Sem.run_bind, hv]; rfl, r⟩
    · rename_i n off b ha hb
      split at h
      · obtain ⟨tv', h1, rfl⟩ := map_pair h
        obtain ⟨v, hv, r⟩ := indexAddrOp_sound h1 (hρ _ _ ha) (hρ _ _ hb) w
        exact ⟨v, by simp only [execOp]; rw [Sem.run_bind, hv]; rfl, r⟩
      · obtain ⟨v, hv, r⟩ := indexArr_sound h hn (hρ _ _ ha) (hρ _ _ hb) w
        exact ⟨v, by simp only [execOp]; rw [Sem.run_bind, hv]; rfl, r⟩
    · rename_i cs off b ha hb
      split at h
      · obtain ⟨tv', h1, rfl⟩ := map_pair h
        obtain ⟨v, hv, r⟩ := indexAddrOp_sound h1 (hρ _ _ ha) (hρ _ _ hb) w
        exact ⟨v, by simp only [execOp]; rw [Sem.run_bind, hv]; rfl, r⟩
      · obtain ⟨v, hv, r⟩ := indexCo_sound h hn (hρ _ _ ha) (hρ _ _ hb) w
        exact ⟨v, by simp only [execOp]; rw [Sem.run_bind, hv]; rfl, r⟩
    · rename_i n off len cap b ha hb
      split at h
      · obtain ⟨tv', h1, rfl⟩ := map_pair h
        obtain ⟨v, hv, r⟩ := indexAddrOp_sound h1 (hρ _ _ ha) (hρ _ _ hb) w
        exact ⟨v, by simp only [execOp]; rw [Sem.run_bind, hv]; rfl, r⟩
      · obtain ⟨v, hv, r⟩ := indexSlc_sound h hn (hρ _ _ ha) (hρ _ _ hb) w
        exact ⟨v, by simp only [execOp]; rw [Sem.run_bind, hv]; rfl, r⟩
    · rename_i a b _ _ _ _ ha hb
      obtain ⟨tv', h1, rfl⟩ := map_pair h
      obtain ⟨v, hv, r⟩ := indexAddrOp_sound h1 (hρ _ _ ha) (hρ _ _ hb) w
      exact ⟨v, by simp only [execOp]; rw [Sem.run_bind, hv]; rfl, r⟩
    · cases h
  · rename_i t x ix
    split at h
    · rename_i a b ha hb
      obtain ⟨v, hv, r⟩ := indexOp_sound h hn (hρ _ _ ha) (hρ _ _ hb) w
      exact ⟨v, by simp only [execOp]; rw [Sem.run_bind, hv]; rfl, r⟩
    · cases h
  · rename_i t ix
    split at h
    · rename_i vs ht
      obtain ⟨s, h1, rfl⟩ := map_pair h
      obtain ⟨us, ev, r⟩ := hρ _ _ ht
      obtain ⟨v, hv, rv⟩ := all2_get ix r h1
      exact ⟨v, by simp [execOp, ev, Instr.extract, hv], rv⟩
    · cases h
  · rename_i b args argTypes
    split at h
    · rename_i x t hargs hts
      split at h
      · rename_i a ha
        obtain ⟨tv', h1, rfl⟩ := map_pair h
        obtain ⟨v, hv, r⟩ := lenC_sound h1 (hρ _ _ ha) type w
        have e1 : args = #[x] := by cases args; simp_all
        have e2 : argTypes = #[t] := by cases argTypes; simp_all
        subst e1 e2
        exact ⟨v, by simp [execOp, resolve, invoke, builtin, hv], r⟩
      · cases h
    · rename_i x y hargs
      split at h
      · rename_i a b ha hb
        obtain ⟨tv', h1, rfl⟩ := map_pair h
        obtain ⟨v, hv, r⟩ := minC_sound (P := P) h1 (hρ _ _ ha) (hρ _ _ hb) argTypes type w
        have e1 : args = #[x, y] := by cases args; simp_all
        subst e1
        exact ⟨v, by simp [execOp, resolve, invoke, builtin, hv], r⟩
      · cases h
    · rename_i x y hargs
      split at h
      · rename_i a b ha hb
        obtain ⟨tv', h1, rfl⟩ := map_pair h
        obtain ⟨v, hv, r⟩ := maxC_sound (P := P) h1 (hρ _ _ ha) (hρ _ _ hb) argTypes type w
        have e1 : args = #[x, y] := by cases args; simp_all
        subst e1
        exact ⟨v, by simp [execOp, resolve, invoke, builtin, hv], r⟩
      · cases h
    · cases h
  · cases h

end Go.Proofs.Ytihmhnfjdkkbgaa.RX
