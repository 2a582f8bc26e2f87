/- RX, part A: a symbolic executor over the kit's wp calculus: values, memory, relations between symbolic states and worlds. No program in sight. -/
import Derived.Below
import Derived.Orders
import Derived.Tactics
import Derived.KernelRfl
import Derived.Laws.Externs
import Derived.Laws.Cells
noncomputable section
namespace Go.Proofs.Ytihmhnfjdkkbgaa.RX
set_option linter.unusedSimpArgs false
open Go Go.RowKit

/-! ### Lists related element by element -/
def all2 {α γ : Type} (R : α → γ → Prop) : List α → List γ → Prop
  | [], [] => True
  | a :: l, b :: m => R a b ∧ all2 R l m
  | _, _ => False

section all2
variable {α γ : Type} {R R' : α → γ → Prop}
theorem all2_length : ∀ {l : List α} {m : List γ}, all2 R l m → l.length = m.length
  | [], [], _ => rfl
  | _ :: l, _ :: m, h => by simp [all2_length (l := l) (m := m) h.2]
  | [], _ :: _, h => h.elim
  | _ :: _, [], h => h.elim
theorem all2_mono (f : ∀ a b, R a b → R' a b) : ∀ {l : List α} {m : List γ}, all2 R l m → all2 R' l m
  | [], [], _ => trivial
  | _ :: _, _ :: _, h => ⟨f _ _ h.1, all2_mono f h.2⟩
  | [], _ :: _, h => h.elim
  | _ :: _, [], h => h.elim
theorem all2_get : ∀ {l : List α} {m : List γ} (i : Nat) {a : α}, all2 R l m → l[i]? = some a → ∃ b, m[i]? = some b ∧ R a b
  | [], _, i, a, _, h => by simp at h
  | x :: l, [], i, a, h, _ => h.elim
  | x :: l, y :: m, 0, a, h, e => by
    simp at e; subst e; exact ⟨y, by simp, h.1⟩
  | x :: l, y :: m, i + 1, a, h, e => by
    simp at e
    obtain ⟨b, hb, r⟩ := all2_get i h.2 e
    exact ⟨b, by simpa using hb, r⟩
theorem all2_get' : ∀ {l : List α} {m : List γ} (i : Nat) {b : γ}, all2 R l m → m[i]? = some b → ∃ a, l[i]? = some a ∧ R a b
  | [], [], i, b, _, h => by simp at h
  | [], _ :: _, i, b, h, _ => h.elim
  | x :: l, [], i, b, h, _ => h.elim
  | x :: l, y :: m, 0, b, h, e => by
    simp at e; subst e; exact ⟨x, by simp, h.1⟩
  | x :: l, y :: m, i + 1, b, h, e => by
    simp at e
    obtain ⟨a, ha, r⟩ := all2_get' i h.2 e
    exact ⟨a, by simpa using ha, r⟩
theorem all2_set : ∀ {l : List α} {m : List γ} (i : Nat) {a : α} {b : γ}, all2 R l m → R a b → all2 R (l.set i a) (m.set i b)
  | [], [], _, _, _, _, _ => trivial
  | _ :: _, _ :: _, 0, _, _, h, r => ⟨r, h.2⟩
  | _ :: _, _ :: _, i + 1, _, _, h, r => ⟨h.1, all2_set i h.2 r⟩
  | [], _ :: _, _, _, _, h, _ => h.elim
  | _ :: _, [], _, _, _, h, _ => h.elim
theorem all2_append : ∀ {l l' : List α} {m m' : List γ}, all2 R l m → all2 R l' m' → all2 R (l ++ l') (m ++ m')
  | [], _, [], _, _, h => h
  | _ :: _, _, _ :: _, _, h, h' => ⟨h.1, all2_append h.2 h'⟩
  | [], _, _ :: _, _, h, _ => h.elim
  | _ :: _, _, [], _, h, _ => h.elim
theorem all2_take : ∀ (n : Nat) {l : List α} {m : List γ}, all2 R l m → all2 R (l.take n) (m.take n)
  | 0, _, _, _ => by simp [all2]
  | n + 1, [], [], _ => trivial
  | n + 1, _ :: _, _ :: _, h => ⟨h.1, all2_take n h.2⟩
  | _, [], _ :: _, h => h.elim
  | _, _ :: _, [], h => h.elim
theorem all2_drop : ∀ (n : Nat) {l : List α} {m : List γ}, all2 R l m → all2 R (l.drop n) (m.drop n)
  | 0, _, _, h => by simpa using h
  | n + 1, [], [], _ => trivial
  | n + 1, _ :: _, _ :: _, h => by simpa using all2_drop n h.2
  | _, [], _ :: _, h => h.elim
  | _, _ :: _, [], h => h.elim
theorem all2_map {δ : Type} (f : δ → α) (g : δ → γ) (h : ∀ d, R (f d) (g d)) : ∀ l : List δ, all2 R (l.map f) (l.map g)
  | [] => trivial
  | d :: l => ⟨h d, all2_map f g h l⟩
theorem all2_replicate {a : α} {b : γ} (h : R a b) : ∀ n, all2 R (List.replicate n a) (List.replicate n b)
  | 0 => trivial
  | n + 1 => ⟨h, all2_replicate h n⟩
theorem all2_nil_left {m : List γ} (h : all2 R [] m) : m = [] := by cases m <;> first | rfl | exact h.elim
theorem all2_cons_left {a : α} {l : List α} {m : List γ} (h : all2 R (a :: l) m) : ∃ b m', m = b :: m' ∧ R a b ∧ all2 R l m' := by
  cases m with
  | nil => exact h.elim
  | cons b m' => exact ⟨b, m', rfl, h.1, h.2⟩
end all2

/-! ### Objects that nobody writes from here on: their cells, and those that these lead to -/
inductive CV where
  | any
  | lit (k : IntKind) (n : Int)
  | int (k : IntKind) (x : Int)
  | str (s : ByteArray)
  | ptr (cs : List CV) (off : Nat)
  | clo (f : FuncId) (caps : List CV)

/-! ### Symbolic values. An integer, a bool, a string may be known ('lit', 'blit', 'strn' knows its length) or not.
  'frz': a slice of n whole numbers in memory that nobody writes from here on; 'fpt': a pointer into it.
  'sq': a slice of numbers, however many, of a block that is its own; 'sqs': a part of one; 'sqp': where one of its numbers lies. -/
inductive RC where
  | any
  | lit (k : IntKind) (n : Int)
  | int (k : IntKind) (x : Int)
  | bit (k : IntKind) (x : Int) (h : x.toNat ≤ 1)
  | blit (b : Bool)
  | bool (b : Bool)
  | str (s : ByteArray)
  | strn (s : ByteArray) (m : Nat) (h : s.size = m)
  | ptr (n off : Nat)
  | slc (n off len : Nat) (cap : Option Nat)
  | frz (k : IntKind) (L : List Int) (n : Nat)
  | fpt (k : IntKind) (L : List Int) (n j : Nat)
  | fn (f : FuncId) (caps : List (Nat × Nat))
  | val (v : Value)
  | sq (n len : Nat)
  | sqs (n lo hi : Nat)
  | sqp (n j : Nat)
  | co (cs : List CV) (off : Nat)
  | clo (f : FuncId) (caps : List CV)

inductive SV where
  | one (c : RC)
  | agg (cs : List RC)

inductive TV where
  | sv (s : SV)
  | tup (vs : List SV)

/-- Where the named blocks lie; the world; which blocks others own, and may write. -/
structure Env where
  at_ : Nat → Option Nat
  w : World
  away : Nat → Prop
instance : CoeFun Env (fun _ => Nat → Option Nat) := ⟨Env.at_⟩

def capIs (β : Env) (c : Nat × Nat) (v : Value) : Prop := ∃ b, β c.1 = some b ∧ v = .pointer (some ⟨b, c.2, none⟩)

/-- From there on lie these numbers, in a block that bears no name. -/
structure Frozen (β : Env) (b off : Nat) (k : IntKind) (L : List Int) (n : Nat) : Prop where
  lt : b < β.w.heap.size
  no : ∀ m, β m ≠ some b
  far : ¬ β.away b
  cells : ∃ cs t fr, β.w.heap[b]? = some (.cells cs t fr) ∧ ∀ j, j < n → cs[off + j]? = some (.int k (L.getD j 0))

/-- How many cells a block has. -/
def roomAt (w : World) (k : Nat) : Nat :=
  match w.heap[k]? with
  | some (.cells cs _ _) => cs.size
  | _ => 0
theorem roomAt_same {w w' : World} {k : Nat} (h : w'.heap[k]? = w.heap[k]?) : roomAt w' k = roomAt w k := by simp only [roomAt, h]
theorem roomAt_out {w : World} {k : Nat} (h : w.heap.size ≤ k) : roomAt w k = 0 := by simp only [roomAt, Array.getElem?_eq_none h]
theorem roomAt_le {w w' : World} (h : ∀ k, k < w.heap.size → w'.heap[k]? = w.heap[k]?) (k : Nat) : roomAt w k ≤ roomAt w' k := by
  rcases Nat.lt_or_ge k w.heap.size with h' | h'
  · rw [roomAt_same (h k h')]; exact Nat.le_refl _
  · rw [roomAt_out h']; exact Nat.zero_le _

/-- A block that bears no name, and is not others' own. -/
def Env.own (β : Env) (b : Nat) : Prop := b < β.w.heap.size ∧ (∀ m, β m ≠ some b) ∧ ¬ β.away b
mutual
def CV.is (β : Env) : CV → Value → Prop
  | .any, _ => True
  | .lit k n, v => v = .int k n
  | .int k x, v => v = .int k x
  | .str s, v => v = .string s
  | .ptr cs off, v => ∃ b, v = .pointer (some ⟨b, off, none⟩) ∧ β.own b ∧ ∃ vs more t fr, β.w.heap[b]? = some (.cells ⟨vs ++ more⟩ t fr) ∧ CV.isL β cs vs
  | .clo f caps, v => ∃ vs, v = .func (.func f) #[] ⟨vs⟩ ∧ CV.isL β caps vs
def CV.isL (β : Env) : List CV → List Value → Prop
  | [], [] => True
  | c :: cs, v :: vs => CV.is β c v ∧ CV.isL β cs vs
  | [], _ :: _ => False
  | _ :: _, [] => False
end
theorem CV.isL_all2 {β : Env} : ∀ {cs : List CV} {vs : List Value}, CV.isL β cs vs ↔ all2 (CV.is β) cs vs
  | [], [] => by simp only [CV.isL, all2]
  | c :: cs, v :: vs => by simp only [CV.isL, all2, CV.isL_all2]
  | [], _ :: _ => by simp only [CV.isL, all2]
  | _ :: _, [] => by simp only [CV.isL, all2]
mutual
/-- What is its own there, and as it was, is its own here. -/
theorem CV.is.move {β β' : Env} (h : ∀ b, β.own b → β'.own b ∧ β'.w.heap[b]? = β.w.heap[b]?) : ∀ (c : CV) (v : Value), CV.is β c v → CV.is β' c v
  | .any, v, _ => by simp only [CV.is]
  | .lit k n, v, e => by simp only [CV.is] at e ⊢; exact e
  | .int k n, v, e => by simp only [CV.is] at e ⊢; exact e
  | .str s, v, e => by simp only [CV.is] at e ⊢; exact e
  | .ptr cs off, v, e => by
    simp only [CV.is] at e ⊢
    obtain ⟨b, e1, ho, vs, more, t, fr, h1, h2⟩ := e
    obtain ⟨q1, q2⟩ := h b ho
    exact ⟨b, e1, q1, vs, more, t, fr, q2.trans h1, CV.isL.move h cs vs h2⟩
  | .clo f caps, v, e => by
    simp only [CV.is] at e ⊢
    obtain ⟨vs, e1, h2⟩ := e
    exact ⟨vs, e1, CV.isL.move h caps vs h2⟩
theorem CV.isL.move {β β' : Env} (h : ∀ b, β.own b → β'.own b ∧ β'.w.heap[b]? = β.w.heap[b]?) : ∀ (cs : List CV) (vs : List Value), CV.isL β cs vs → CV.isL β' cs vs
  | [], [], _ => by simp only [CV.isL]
  | c :: cs, v :: vs, e => by
    simp only [CV.isL] at e ⊢
    exact ⟨CV.is.move h c v e.1, CV.isL.move h cs vs e.2⟩
  | [], _ :: _, e => by simp only [CV.isL] at e
  | _ :: _, [], e => by simp only [CV.isL] at e
end
def RC.is (β : Env) : RC → Value → Prop
  | .any, _ => True
  | .lit k n, v => v = .int k n
  | .int k x, v => v = .int k x
  | .bit k x _, v => v = .int k x
  | .blit b, v => v = .bool b
  | .bool b, v => v = .bool b
  | .str s, v => v = .string s
  | .strn s _ _, v => v = .string s
  | .ptr n off, v => ∃ b, β n = some b ∧ v = .pointer (some ⟨b, off, none⟩)
  | .slc n off len cap, v => ∃ b c, β n = some b ∧ (∀ m, cap = some m → c = m) ∧ len ≤ c ∧ (cap = none → off + c ≤ roomAt β.w b) ∧ v = .slice (some ⟨b, off, none⟩) len c
  | .frz k L n, v => ∃ b off c, n ≤ c ∧ v = .slice (some ⟨b, off, none⟩) n c ∧ Frozen β b off k L n
  | .fpt k L n j, v => ∃ b off, v = .pointer (some ⟨b, off + j, none⟩) ∧ j < n ∧ Frozen β b off k L n
  | .fn f caps, v => ∃ vs, all2 (capIs β) caps vs ∧ v = .func (.func f) #[] ⟨vs⟩
  | .val u, v => v = u
  | .sq n len, v => (∃ b c, β n = some b ∧ len ≤ c ∧ c ≤ roomAt β.w b ∧ v = .slice (some ⟨b, 0, none⟩) len c) ∨ (len = 0 ∧ v = .slice none 0 0)
  | .sqs n lo hi, v => (lo < hi ∧ ∃ b c, β n = some b ∧ hi - lo ≤ c ∧ v = .slice (some ⟨b, lo, none⟩) (hi - lo) c) ∨ (lo = hi ∧ ∃ c, v = .slice none 0 c ∨ ∃ b o, v = .slice (some ⟨b, o, none⟩) 0 c)
  | .sqp n j, v => ∃ b, β n = some b ∧ v = .pointer (some ⟨b, j, none⟩)
  | .co cs off, v => CV.is β (.ptr cs off) v
  | .clo f caps, v => CV.is β (.clo f caps) v

def SV.is (β : Env) : SV → Value → Prop
  | .one c, v => c.is β v
  | .agg cs, v => ∃ vs, v = .agg ⟨vs⟩ ∧ all2 (RC.is β) cs vs

def TV.is (β : Env) : TV → Value → Prop
  | .sv s, v => s.is β v
  | .tup ss, v => ∃ vs, v = .tuple ⟨vs⟩ ∧ all2 (SV.is β) ss vs

/-- β' knows all that β knows; what bears no name is as it was. -/
structure Ext (β β' : Env) : Prop where
  keep : ∀ n b, β n = some b → β' n = some b
  fresh : ∀ n b, β' n = some b → (∃ m, β m = some b) ∨ β.w.heap.size ≤ b
  size : β.w.heap.size ≤ β'.w.heap.size
  away : β'.away = β.away
  cells : ∀ k, k < β.w.heap.size → (∀ n, β n ≠ some k) → ¬ β.away k → β'.w.heap[k]? = β.w.heap[k]?
  room : ∀ k, roomAt β.w k ≤ roomAt β'.w k
theorem Ext.refl (β : Env) : Ext β β := ⟨fun _ _ h => h, fun n _ h => .inl ⟨n, h⟩, Nat.le_refl _, rfl, fun _ _ _ _ => rfl, fun _ => Nat.le_refl _⟩
theorem Ext.trans {a b c : Env} (h : Ext a b) (h' : Ext b c) : Ext a c :=
  ⟨fun n x e => h'.keep n x (h.keep n x e),
   fun n x e => by
    rcases h'.fresh n x e with ⟨m, h1⟩ | h1
    · exact h.fresh m x h1
    · exact .inr (Nat.le_trans h.size h1),
   Nat.le_trans h.size h'.size, h'.away.trans h.away,
   fun k hk hn ha => by
    rw [h'.cells k (Nat.lt_of_lt_of_le hk h.size) (fun n e => by
      rcases h.fresh n k e with ⟨m, h1⟩ | h1
      · exact hn m h1
      · omega) (by rw [h.away]; exact ha)]
    exact h.cells k hk hn ha, fun k => Nat.le_trans (h.room k) (h'.room k)⟩
def Env.to (β : Env) (w : World) : Env := ⟨β.at_, w, β.away⟩
/-- The world has moved, no named block's name has. -/
theorem Ext.moved {β : Env} {w : World} (hs : β.w.heap.size ≤ w.heap.size) (hc : ∀ k, k < β.w.heap.size → (∀ n, β n ≠ some k) → w.heap[k]? = β.w.heap[k]?) (hr : ∀ k, roomAt β.w k ≤ roomAt w k) : Ext β (β.to w) :=
  ⟨fun _ _ h => h, fun n _ h => .inl ⟨n, h⟩, hs, rfl, fun k hk hn _ => hc k hk hn, hr⟩

theorem Ext.own {β β' : Env} (e : Ext β β') (b : Nat) (h : β.own b) : β'.own b ∧ β'.w.heap[b]? = β.w.heap[b]? := by
  obtain ⟨h1, h2, h3⟩ := h
  refine ⟨⟨Nat.lt_of_lt_of_le h1 e.size, fun m hm => ?_, by rw [e.away]; exact h3⟩, e.cells b h1 h2 h3⟩
  rcases e.fresh m b hm with ⟨m', h4⟩ | h4
  · exact h2 m' h4
  · omega
theorem capIs.ext {β β' : Env} (e : Ext β β') (c : Nat × Nat) (v : Value) (h : capIs β c v) : capIs β' c v :=
  let ⟨b, h1, h2⟩ := h
  ⟨b, e.keep _ _ h1, h2⟩
theorem Frozen.ext {β β' : Env} (e : Ext β β') {b off : Nat} {k : IntKind} {L : List Int} {n : Nat} (h : Frozen β b off k L n) : Frozen β' b off k L n :=
  ⟨Nat.lt_of_lt_of_le h.lt e.size, fun m hm => by
    rcases e.fresh m b hm with ⟨m', h1⟩ | h1
    · exact h.no m' h1
    · have := h.lt; omega,
   by rw [e.away]; exact h.far, by rw [e.cells b h.lt h.no h.far]; exact h.cells⟩
theorem RC.is.ext {β β' : Env} (e : Ext β β') (c : RC) (v : Value) (h : c.is β v) : c.is β' v := by
  cases c <;> try exact h
  case ptr n off => obtain ⟨b, h1, h2⟩ := h; exact ⟨b, e.keep _ _ h1, h2⟩
  case slc n off len cap => obtain ⟨b, c, h1, h2, h3, h4, h5⟩ := h; exact ⟨b, c, e.keep _ _ h1, h2, h3, fun hn => Nat.le_trans (h4 hn) (e.room b), h5⟩
  case frz k L n => obtain ⟨b, off, c, h1, h2, h3⟩ := h; exact ⟨b, off, c, h1, h2, h3.ext e⟩
  case fpt k L n j => obtain ⟨b, off, h1, h2, h3⟩ := h; exact ⟨b, off, h1, h2, h3.ext e⟩
  case fn f caps => obtain ⟨vs, h1, h2⟩ := h; exact ⟨vs, all2_mono (capIs.ext e) h1, h2⟩
  case sq n len =>
    rcases h with ⟨b, c, h1, h2, h3, h4⟩ | h
    · exact .inl ⟨b, c, e.keep _ _ h1, h2, Nat.le_trans h3 (e.room b), h4⟩
    · exact .inr h
  case sqs n lo hi =>
    rcases h with ⟨hl, b, c, h1, h2, h3⟩ | h
    · exact .inl ⟨hl, b, c, e.keep _ _ h1, h2, h3⟩
    · exact .inr h
  case sqp n j => obtain ⟨b, h1, h2⟩ := h; exact ⟨b, e.keep _ _ h1, h2⟩
  case co cs off => exact CV.is.move e.own _ _ h
  case clo f caps => exact CV.is.move e.own _ _ h
theorem SV.is.ext {β β' : Env} (e : Ext β β') (c : SV) (v : Value) (h : c.is β v) : c.is β' v := by
  cases c
  · exact RC.is.ext e _ _ h
  · obtain ⟨vs, h1, h2⟩ := h; exact ⟨vs, h1, all2_mono (RC.is.ext e) h2⟩
theorem TV.is.ext {β β' : Env} (e : Ext β β') (c : TV) (v : Value) (h : c.is β v) : c.is β' v := by
  cases c
  · exact SV.is.ext e _ _ h
  · obtain ⟨vs, h1, h2⟩ := h; exact ⟨vs, h1, all2_mono (SV.is.ext e) h2⟩

/-! ### Symbolic memory -/
inductive Slot where
  | free
  | dead
  | blk (t : TypeId) (cells : List RC)
  | seq (t : TypeId) (k : IntKind) (L : List Int)
/-- A block that is spoken of. -/
def Slot.live : Slot → Bool
  | .blk _ _ | .seq _ _ _ => true
  | _ => false

/-! ### Temporaries: rows of eight, by bare recursion (the kernel's work hangs on it) -/
def getR {α : Type} (l : List α) : Nat → Option α := List.rec (fun _ => none) (fun a _ ih i => Nat.rec (some a) (fun j _ => ih j) i) l
def modR {α : Type} (f : α → α) (l : List α) : Nat → List α := List.rec (fun _ => []) (fun a t ih i => Nat.rec (f a :: t) (fun j _ => a :: ih j) i) l
theorem getR_eq {α : Type} : ∀ (l : List α) (i : Nat), getR l i = l[i]?
  | [], _ => rfl
  | _ :: _, 0 => rfl
  | _ :: l, i + 1 => by
    show getR l i = _
    rw [getR_eq l i]; simp
theorem modR_get {α : Type} (f : α → α) : ∀ (l : List α) (i j : Nat), (modR f l i)[j]? = if i = j then (l[j]?).map f else l[j]?
  | [], i, j => by show ([] : List α)[j]? = _; simp
  | a :: l, 0, 0 => by show (f a :: l)[0]? = _; simp
  | a :: l, 0, j + 1 => by show (f a :: l)[j + 1]? = _; simp
  | a :: l, i + 1, 0 => by show (a :: modR f l i)[0]? = _; simp
  | a :: l, i + 1, j + 1 => by
    show (a :: modR f l i)[j + 1]? = _
    simp only [List.getElem?_cons_succ, modR_get f l i j, Nat.add_right_cancel_iff]
structure Tm where
  rows : List (List TV)
def Tm.get (t : Tm) (i : Nat) : Option TV :=
  match getR t.rows (i / 8) with
  | some r => getR r (i % 8)
  | none => none
def Tm.set (t : Tm) (i : Nat) (v : TV) : Tm := ⟨modR (fun r => modR (fun _ => v) r (i % 8)) t.rows (i / 8)⟩
theorem Tm.get_eq (t : Tm) (i : Nat) : t.get i = (t.rows[i / 8]?).bind fun r => r[i % 8]? := by
  unfold Tm.get
  rw [getR_eq]
  cases t.rows[i / 8]? with
  | none => rfl
  | some r => exact getR_eq r _
theorem Tm.get_set (t : Tm) (i j : Nat) (v : TV) : (t.set i v).get j = if i = j then (t.get j).map fun _ => v else t.get j := by
  simp only [Tm.get_eq, Tm.set, modR_get]
  by_cases h : i / 8 = j / 8
  · rw [if_pos h]
    cases hr : t.rows[j / 8]? with
    | none => simp
    | some r =>
      simp only [Option.map_some, Option.bind_some, modR_get]
      by_cases h' : i % 8 = j % 8
      · rw [if_pos h', if_pos (by omega)]
      · rw [if_neg h', if_neg (by omega)]
  · rw [if_neg h, if_neg (by intro e; subst e; exact h rfl)]
theorem modR_comm {α : Type} (f g : α → α) (l : List α) {i j : Nat} (h : i ≠ j) : modR g (modR f l i) j = modR f (modR g l j) i := by
  apply List.ext_getElem?
  intro k
  simp only [modR_get]
  by_cases h1 : i = k <;> by_cases h2 : j = k
  · omega
  · simp [h1, h2]
  · simp [h1, h2]
  · simp [h1, h2]
theorem modR_modR {α : Type} (f g : α → α) (l : List α) (i : Nat) : modR g (modR f l i) i = modR (fun x => g (f x)) l i := by
  apply List.ext_getElem?
  intro k
  simp only [modR_get]
  by_cases h1 : i = k
  · simp [h1]; rfl
  · simp [h1]
theorem Tm.set_comm (t : Tm) (v u : TV) {i j : Nat} (h : i ≠ j) : (t.set i v).set j u = (t.set j u).set i v := by
  simp only [Tm.set, Tm.mk.injEq]
  by_cases h1 : i / 8 = j / 8
  · rw [h1, modR_modR, modR_modR]
    congr 1
    funext r
    exact modR_comm _ _ r (by omega)
  · exact modR_comm _ _ _ h1
def chunks : Nat → List TV → List (List TV)
  | 0, _ => []
  | n + 1, l => l.take 8 :: chunks n (l.drop 8)
def Tm.ofL (l : List TV) : Tm := ⟨chunks (l.length / 8 + 1) l⟩
theorem chunks_get : ∀ (n : Nat) (l : List TV) (i : Nat), i / 8 < n → ((chunks n l)[i / 8]?).bind (fun r => r[i % 8]?) = l[i]?
  | 0, _, _, h => by omega
  | n + 1, l, i, h => by
    simp only [chunks]
    by_cases h8 : i < 8
    · rw [show i / 8 = 0 by omega, show i % 8 = i by omega]
      simp [List.getElem?_take_of_lt h8]
    · have e1 : i / 8 = (i - 8) / 8 + 1 := by omega
      have e2 : i % 8 = (i - 8) % 8 := by omega
      rw [e1, e2, List.getElem?_cons_succ, chunks_get n (l.drop 8) (i - 8) (by omega), List.getElem?_drop]
      congr 1; omega
theorem Tm.get_ofL {l : List TV} {i : Nat} {v : TV} (h : (Tm.ofL l).get i = some v) : l[i]? = some v := by
  rw [Tm.get_eq] at h
  by_cases hi : i / 8 < l.length / 8 + 1
  · simp only [Tm.ofL] at h
    rw [chunks_get _ _ _ hi] at h; exact h
  · have : (Tm.ofL l).rows.length = l.length / 8 + 1 := by
      have : ∀ n (l : List TV), (chunks n l).length = n := by
        intro n
        induction n with
        | zero => intro l; rfl
        | succ n ih => intro l; simp [chunks, ih]
      exact this _ _
    rw [List.getElem?_eq_none (by omega)] at h
    cases h
def Tm.map (f : TV → TV) (t : Tm) : Tm := ⟨t.rows.map (List.map f)⟩
theorem Tm.get_map (f : TV → TV) (t : Tm) (i : Nat) : (t.map f).get i = (t.get i).map f := by
  simp only [Tm.get_eq, Tm.map, List.getElem?_map]
  cases t.rows[i / 8]? <;> simp
def Tm.all (t : Tm) (p : TV → Bool) : Bool := t.rows.all fun r => r.all p
theorem Tm.all_get {t : Tm} {p : TV → Bool} (h : t.all p = true) {i : Nat} {v : TV} (hv : t.get i = some v) : p v = true := by
  rw [Tm.get_eq] at hv
  obtain ⟨r, h1, h2⟩ := Option.bind_eq_some_iff.1 hv
  exact List.all_eq_true.1 (List.all_eq_true.1 h r (List.mem_of_getElem? h1)) v (List.mem_of_getElem? h2)
def Tm.toL (t : Tm) : List TV := t.rows.flatMap id
def zipW {α γ : Type} (f : α → α → γ) : List α → List α → List γ
  | x :: r, y :: s => f x y :: zipW f r s
  | _, _ => []
theorem zipW_get {α γ : Type} {f : α → α → γ} : ∀ {l m : List α} {i : Nat} {c : γ}, (zipW f l m)[i]? = some c → ∃ x y, l[i]? = some x ∧ m[i]? = some y ∧ c = f x y
  | x :: l, y :: m, 0, c, h => by simp [zipW] at h; exact ⟨x, y, by simp, by simp, h.symm⟩
  | x :: l, y :: m, i + 1, c, h => by
    simp only [zipW, List.getElem?_cons_succ] at h
    obtain ⟨a, b, h1, h2, h3⟩ := zipW_get h
    exact ⟨a, b, by simpa using h1, by simpa using h2, h3⟩
  | [], _, i, c, h => by simp [zipW] at h
  | _ :: _, [], i, c, h => by simp [zipW] at h
def Tm.zip (f : TV → TV → TV) (t u : Tm) : Tm := ⟨zipW (zipW f) t.rows u.rows⟩
theorem Tm.zip_get {f : TV → TV → TV} {t u : Tm} {i : Nat} {c : TV} (h : (Tm.zip f t u).get i = some c) : ∃ x y, t.get i = some x ∧ u.get i = some y ∧ c = f x y := by
  rw [Tm.get_eq] at h
  obtain ⟨r, h1, h2⟩ := Option.bind_eq_some_iff.1 h
  obtain ⟨a, b, ha, hb, rfl⟩ := zipW_get h1
  obtain ⟨x, y, hx, hy, e⟩ := zipW_get h2
  exact ⟨x, y, by rw [Tm.get_eq, ha]; exact hx, by rw [Tm.get_eq, hb]; exact hy, e⟩
/-- Each temporary is what its place says. -/
def TmIs (β : Env) (t : Tm) (vs : List Value) : Prop := ∀ i tv, t.get i = some tv → ∃ v, vs[i]? = some v ∧ tv.is β v
theorem TmIs.ext {β β' : Env} (e : Ext β β') {t : Tm} {vs : List Value} (h : TmIs β t vs) : TmIs β' t vs := fun i tv hi =>
  let ⟨v, h1, h2⟩ := h i tv hi
  ⟨v, h1, TV.is.ext e _ _ h2⟩
theorem TmIs.set {β : Env} {t : Tm} {vs : List Value} (h : TmIs β t vs) (d : Nat) {tv : TV} {v : Value} (r : tv.is β v) : TmIs β (t.set d tv) (vs.set d v) := by
  intro i u hi
  rw [Tm.get_set] at hi
  by_cases e : d = i
  · subst e
    rw [if_pos rfl] at hi
    obtain ⟨x, hx, rfl⟩ := Option.map_eq_some_iff.1 hi
    obtain ⟨w, hw, _⟩ := h d x hx
    have hlt : d < vs.length := by
      rcases Nat.lt_or_ge d vs.length with h' | h'
      · exact h'
      · rw [List.getElem?_eq_none h'] at hw; cases hw
    exact ⟨v, List.getElem?_set_self hlt, r⟩
  · rw [if_neg e] at hi
    obtain ⟨w, hw, hr⟩ := h i u hi
    exact ⟨w, by rw [List.getElem?_set_ne e]; exact hw, hr⟩
theorem TmIs.of {β : Env} {l : List TV} {vs : List Value} (h : all2 (TV.is β) l vs) : TmIs β (Tm.ofL l) vs := fun i _ hi => all2_get i h (Tm.get_ofL hi)

structure St where
  tmps : Tm
  mem : List Slot

/-- Below B, but for the blocks in S, the world is as it was. -/
structure Kept (S : Nat → Prop) (B : Nat) (w w' : World) : Prop where
  os : w'.os = w.os
  tape : w'.tape = w.tape
  output : w'.output = w.output
  size : w.heap.size ≤ w'.heap.size
  block : ∀ k, k < B → ¬ S k → w'.heap[k]? = w.heap[k]?
  room : ∀ k, roomAt w k ≤ roomAt w' k

theorem Kept.refl (S : Nat → Prop) (B : Nat) (w : World) : Kept S B w w := ⟨rfl, rfl, rfl, Nat.le_refl _, fun _ _ _ => rfl, fun _ => Nat.le_refl _⟩
theorem Kept.trans {S : Nat → Prop} {B : Nat} {a b c : World} (h : Kept S B a b) (h' : Kept S B b c) : Kept S B a c :=
  ⟨h'.os.trans h.os, h'.tape.trans h.tape, h'.output.trans h.output, Nat.le_trans h.size h'.size, fun k hk hs => (h'.block k hk hs).trans (h.block k hk hs), fun k => Nat.le_trans (h.room k) (h'.room k)⟩
theorem Kept.below {B : Nat} {w w' : World} (h : Kept (fun _ => False) B w w') : Below B w w' :=
  ⟨h.os, h.tape, h.output, h.size, fun k hk => h.block k hk id⟩

/-- A block in the heap holds these cells first, and none of them may not be written. -/
def Holds (β : Env) (w : World) (k : Nat) (t : TypeId) (cs : List RC) : Prop :=
  ∃ vs more fr, w.heap[k]? = some (.cells ⟨vs ++ more⟩ t fr) ∧ all2 (RC.is β) cs vs ∧ ∀ j, j < (vs ++ more).length → ¬ (fr.1 ≤ j ∧ j < fr.2)

/-- A block in the heap holds these numbers first, and none of its cells may not be written. -/
def HoldsS (w : World) (b : Nat) (t : TypeId) (k : IntKind) (L : List Int) : Prop :=
  ∃ more fr, w.heap[b]? = some (.cells ⟨L.map (Value.int k) ++ more⟩ t fr) ∧ ∀ j, j < (L.map (Value.int k) ++ more).length → ¬ (fr.1 ≤ j ∧ j < fr.2)
theorem HoldsS.same {w w' : World} {b : Nat} {t : TypeId} {k : IntKind} {L : List Int} (h : HoldsS w b t k L) (e : w'.heap[b]? = w.heap[b]?) : HoldsS w' b t k L := by
  obtain ⟨more, fr, h1, h2⟩ := h
  exact ⟨more, fr, e.trans h1, h2⟩

/-- The blocks that came in: where they lie, by their names. -/
def rngOf (S : Nat → Option Nat) : Nat → Prop := fun k => ∃ n, S n = some k

/-- What is the call's own begins here; which blocks below are others' own. -/
structure Base where
  n : Nat
  away : Nat → Prop
instance : Coe Base Nat := ⟨Base.n⟩

structure MemRel (S : Nat → Option Nat) (B : Base) (w0 : World) (β : Env) (mem : List Slot) (w : World) : Prop where
  wd : β.w = w
  aw : β.away = B.away
  far : ∀ k, B.away k → k < B.n
  blk : ∀ n t cs, mem[n]? = some (.blk t cs) → ∃ k, β n = some k ∧ Holds β w k t cs
  seq : ∀ n t k L, mem[n]? = some (.seq t k L) → (∀ b, β n = some b → HoldsS w b t k L) ∧ (β n = none → L = [])
  inj : ∀ n m s s' k, mem[n]? = some s → mem[m]? = some s' → s.live = true → s'.live = true → β n = some k → β m = some k → n = m
  rng : ∀ n k, β n = some k → (rngOf S k ∨ B ≤ k) ∧ k < w.heap.size
  used : ∀ n k, β n = some k → ∃ s, mem[n]? = some s ∧ s ≠ .free
  came : ∀ n k, S n = some k → β n = some k
  kept : Kept (rngOf S) B w0 w
  sz : B ≤ w.heap.size

structure Rel (S : Nat → Option Nat) (B : Base) (w0 : World) (β : Env) (st : St) (a : Act) (w : World) : Prop where
  tm : TmIs β st.tmps a.tmps.toList
  df : a.defers = []
  mm : MemRel S B w0 β st.mem w

/-- The world has moved without touching what is known. -/
theorem Holds.ext {β β' : Env} (e : Ext β β') {w : World} {k : Nat} {t : TypeId} {cs : List RC} (h : Holds β w k t cs) : Holds β' w k t cs := by
  obtain ⟨vs, more, fr, h1, h2, h3⟩ := h
  exact ⟨vs, more, fr, h1, all2_mono (RC.is.ext e) h2, h3⟩
theorem Holds.same {β : Env} {w w' : World} {k : Nat} {t : TypeId} {cs : List RC} (h : Holds β w k t cs) (e : w'.heap[k]? = w.heap[k]?) : Holds β w' k t cs := by
  obtain ⟨vs, more, fr, h1, h2, h3⟩ := h
  exact ⟨vs, more, fr, e.trans h1, h2, h3⟩

theorem MemRel.drew {S : Nat → Option Nat} {B : Base} {w0 : World} {β : Env} {mem : List Slot} {w : World} (h : MemRel S B w0 β mem w) : Ext β (β.to { w with drawn := w.drawn + 1 }) ∧ MemRel S B w0 (β.to { w with drawn := w.drawn + 1 }) mem { w with drawn := w.drawn + 1 } := by
  have hw := h.wd
  have e : Ext β (β.to { w with drawn := w.drawn + 1 }) := Ext.moved (by rw [hw]; exact Nat.le_refl _) (fun k _ _ => by rw [hw]) (fun k => by rw [hw]; exact Nat.le_refl _)
  exact ⟨e, ⟨rfl, h.aw, h.far, fun n t cs hn => let ⟨k, hk, hh⟩ := h.blk n t cs hn; ⟨k, hk, hh.ext e⟩, fun n t k L hn => ⟨fun b hb => ((h.seq n t k L hn).1 b hb).same rfl, (h.seq n t k L hn).2⟩, h.inj, h.rng, h.used, h.came, ⟨h.kept.os, h.kept.tape, h.kept.output, h.kept.size, h.kept.block, h.kept.room⟩, h.sz⟩⟩

def updβ (β : Env) (n k : Nat) (w : World) : Env := ⟨fun m => if m = n then some k else β m, w, β.away⟩
theorem updβ_self (β : Env) (n k : Nat) (w : World) : updβ β n k w n = some k := by simp [updβ]
theorem updβ_ext {β : Env} {n k : Nat} {w : World} (h : β n = none) (hk : (∃ m, β m = some k) ∨ β.w.heap.size ≤ k) (hs : β.w.heap.size ≤ w.heap.size) (hc : ∀ j, j < β.w.heap.size → (∀ m, β m ≠ some j) → w.heap[j]? = β.w.heap[j]?) (hr : ∀ j, roomAt β.w j ≤ roomAt w j) : Ext β (updβ β n k w) := by
  refine ⟨fun m b hb => ?_, fun m b hb => ?_, hs, rfl, fun k hk hn _ => hc k hk hn, hr⟩
  · show (if m = n then some k else β m) = some b
    split
    · rename_i e; subst e; rw [h] at hb; cases hb
    · exact hb
  · have hb' : (if m = n then some k else β m) = some b := hb
    split at hb'
    · cases hb'; exact hk
    · exact .inl ⟨m, hb'⟩

theorem MemRel.free {S : Nat → Option Nat} {B : Base} {w0 : World} {β : Env} {mem : List Slot} {w : World} (h : MemRel S B w0 β mem w) {n : Nat} (hn : mem[n]? = some .free) : β n = none := by
  cases hb : β n with
  | none => rfl
  | some k =>
    obtain ⟨s, hs, hne⟩ := h.used n k hb
    rw [hn] at hs; cases hs; exact absurd rfl hne

def SlotIs (β : Env) (w : World) (k : Nat) : Slot → Prop
  | .blk t cs => Holds β w k t cs
  | .seq t i L => HoldsS w k t i L
  | .dead => True
  | .free => False
theorem SlotIs.ext {β β' : Env} (e : Ext β β') {w : World} {k : Nat} {s : Slot} (h : SlotIs β w k s) : SlotIs β' w k s := by
  cases s with
  | blk t cs => exact Holds.ext e h
  | _ => exact h
theorem Slot.live_free {s : Slot} (h : s.live = true) : s ≠ .free := by cases s <;> first | (cases h; done) | simp
theorem slot_lt {mem : List Slot} {n : Nat} {s : Slot} (hn : mem[n]? = some s) : n < mem.length := by
  rcases Nat.lt_or_ge n mem.length with h' | h'
  · exact h'
  · simp [List.getElem?_eq_none h'] at hn
/-- A new block, of a call's or of an operation's own, and what is known of it. -/
theorem MemRel.adoptS {S : Nat → Option Nat} {B : Base} {w0 : World} {β : Env} {mem : List Slot} {w w' : World} (h : MemRel S B w0 β mem w) (hk : Below w.heap.size w w') {n b : Nat} (hn : mem[n]? = some .free) (hb : w.heap.size ≤ b) (hb' : b < w'.heap.size)
    {s0 : Slot} (h0 : SlotIs β w' b s0) :
    Ext β (updβ β n b w') ∧ MemRel S B w0 (updβ β n b w') (mem.set n s0) w' := by
  have hw := h.wd
  have hfree := h.free hn
  have hlt := slot_lt hn
  have e : Ext β (updβ β n b w') := updβ_ext hfree (.inr (by rw [hw]; exact hb)) (by rw [hw]; exact hk.size) (fun j hj _ => by rw [hw] at hj ⊢; exact hk.block j hj) (by rw [hw]; exact roomAt_le hk.block)
  have old : ∀ m j, m ≠ n → updβ β n b w' m = some j → β m = some j := by
    intro m j hm h
    have h' : (if m = n then some b else β m) = some j := h
    rwa [if_neg hm] at h'
  have new : ∀ j, updβ β n b w' n = some j → j = b := by
    intro j h
    rw [updβ_self] at h; injection h with h; exact h.symm
  have hs0 : s0 ≠ .free := by rintro rfl; exact h0
  refine ⟨e, rfl, h.aw, h.far, fun m t' cs' hm => ?_, fun m t' k' L' hm => ?_, fun x y sx sy j h1 h2 l1 l2 hx hy => ?_, fun m j hm => ?_, fun m j hm => ?_, fun m j hm => e.keep m j (h.came m j hm), ?_, Nat.le_trans h.sz hk.size⟩
  · by_cases em : m = n
    · subst em
      rw [List.getElem?_set_self hlt] at hm
      injection hm with hm; subst hm
      exact ⟨b, updβ_self _ _ _ _, SlotIs.ext e h0⟩
    · rw [List.getElem?_set_ne (fun e' => em e'.symm)] at hm
      obtain ⟨j, hj, hh⟩ := h.blk m t' cs' hm
      exact ⟨j, e.keep m j hj, (hh.ext e).same (hk.block j (h.rng m j hj).2)⟩
  · by_cases em : m = n
    · subst em
      rw [List.getElem?_set_self hlt] at hm
      injection hm with hm; subst hm
      exact ⟨fun b' hb'' => by rw [new b' hb'']; exact h0, fun hno => by rw [updβ_self] at hno; cases hno⟩
    · rw [List.getElem?_set_ne (fun e' => em e'.symm)] at hm
      obtain ⟨h1, h2⟩ := h.seq m t' k' L' hm
      refine ⟨fun k hk' => ?_, fun hno => h2 ?_⟩
      · have ho := old m k em hk'
        exact (h1 k ho).same (hk.block k (h.rng m k ho).2)
      · have h' : (if m = n then some b else β m) = none := hno
        rwa [if_neg em] at h'
  · by_cases ex : x = n <;> by_cases ey : y = n
    · rw [ex, ey]
    · subst ex
      have := new j hx; subst this
      have := (h.rng y _ (old y _ ey hy)).2; omega
    · subst ey
      have := new j hy; subst this
      have := (h.rng x _ (old x _ ex hx)).2; omega
    · rw [List.getElem?_set_ne (fun e' => ex e'.symm)] at h1
      rw [List.getElem?_set_ne (fun e' => ey e'.symm)] at h2
      exact h.inj x y sx sy j h1 h2 l1 l2 (old x j ex hx) (old y j ey hy)
  · by_cases em : m = n
    · subst em
      have := new j hm; subst this
      exact ⟨.inr (Nat.le_trans h.sz hb), hb'⟩
    · have := h.rng m j (old m j em hm)
      exact ⟨this.1, Nat.lt_of_lt_of_le this.2 hk.size⟩
  · by_cases em : m = n
    · subst em; exact ⟨_, List.getElem?_set_self hlt, hs0⟩
    · obtain ⟨s, hs, hs'⟩ := h.used m j (old m j em hm)
      exact ⟨s, by rw [List.getElem?_set_ne (fun e' => em e'.symm)]; exact hs, hs'⟩
  · exact h.kept.trans ⟨hk.os, hk.tape, hk.output, hk.size, fun j hj _ => hk.block j (Nat.lt_of_lt_of_le hj h.sz), roomAt_le hk.block⟩
/-- A name that leads nowhere: no bytes. -/
theorem MemRel.emptyS {S : Nat → Option Nat} {B : Base} {w0 : World} {β : Env} {mem : List Slot} {w : World} (h : MemRel S B w0 β mem w) {n : Nat} (hn : mem[n]? = some .free) (t : TypeId) (k : IntKind) : MemRel S B w0 β (mem.set n (.seq t k [])) w := by
  have hfree := h.free hn
  have hlt := slot_lt hn
  refine ⟨h.wd, h.aw, h.far, fun m t' cs' hm => ?_, fun m t' k' L' hm => ?_, fun x y sx sy j h1 h2 l1 l2 hx hy => ?_, h.rng, fun m j hm => ?_, h.came, h.kept, h.sz⟩
  · by_cases em : m = n
    · subst em
      rw [List.getElem?_set_self hlt] at hm; cases hm
    · rw [List.getElem?_set_ne (fun e' => em e'.symm)] at hm
      exact h.blk m t' cs' hm
  · by_cases em : m = n
    · subst em
      rw [List.getElem?_set_self hlt] at hm
      injection hm with hm; injection hm with h1 h2 h3; subst h1; subst h2; subst h3
      exact ⟨fun b hb => (by rw [hfree] at hb; cases hb), fun _ => rfl⟩
    · rw [List.getElem?_set_ne (fun e' => em e'.symm)] at hm
      exact h.seq m t' k' L' hm
  · have ex : x ≠ n := fun e => by subst e; rw [hfree] at hx; cases hx
    have ey : y ≠ n := fun e => by subst e; rw [hfree] at hy; cases hy
    rw [List.getElem?_set_ne (fun e' => ex e'.symm)] at h1
    rw [List.getElem?_set_ne (fun e' => ey e'.symm)] at h2
    exact h.inj x y sx sy j h1 h2 l1 l2 hx hy
  · by_cases em : m = n
    · subst em; rw [hfree] at hm; cases hm
    · obtain ⟨s, hs, hs'⟩ := h.used m j hm
      exact ⟨s, by rw [List.getElem?_set_ne (fun e' => em e'.symm)]; exact hs, hs'⟩
theorem Below.of_alloc (w : World) (o : Obj) : Below w.heap.size w (w.alloc o) := ⟨rfl, rfl, rfl, by simp, fun k hk => Below.heap_alloc _ _ _ hk⟩
theorem heap_alloc_self (w : World) (o : Obj) : (w.alloc o).heap[w.heap.size]? = some o := by show (w.heap.push o)[w.heap.size]? = some o; simp
/-- A new block. -/
theorem MemRel.new {S : Nat → Option Nat} {B : Base} {w0 : World} {β : Env} {mem : List Slot} {w : World} (h : MemRel S B w0 β mem w) {n : Nat} (hn : mem[n]? = some .free) {t : TypeId} {cs : List RC} {vs more : List Value}
    (fr : Nat × Nat) (hfr : ∀ j, j < (vs ++ more).length → ¬ (fr.1 ≤ j ∧ j < fr.2)) (hc : all2 (RC.is β) cs vs) :
    Ext β (updβ β n w.heap.size (w.alloc (.cells ⟨vs ++ more⟩ t fr))) ∧ MemRel S B w0 (updβ β n w.heap.size (w.alloc (.cells ⟨vs ++ more⟩ t fr))) (mem.set n (.blk t cs)) (w.alloc (.cells ⟨vs ++ more⟩ t fr)) :=
  h.adoptS (Below.of_alloc w _) hn (Nat.le_refl _) (by simp) (s0 := .blk t cs) ⟨vs, more, fr, heap_alloc_self w _, hc, hfr⟩
/-- A new block of numbers. -/
theorem MemRel.newSeq {S : Nat → Option Nat} {B : Base} {w0 : World} {β : Env} {mem : List Slot} {w : World} (h : MemRel S B w0 β mem w) {n : Nat} (hn : mem[n]? = some .free) {t : TypeId} {k : IntKind} {L : List Int} {more : List Value}
    (fr : Nat × Nat) (hfr : ∀ j, j < (L.map (Value.int k) ++ more).length → ¬ (fr.1 ≤ j ∧ j < fr.2)) :
    Ext β (updβ β n w.heap.size (w.alloc (.cells ⟨L.map (Value.int k) ++ more⟩ t fr))) ∧ MemRel S B w0 (updβ β n w.heap.size (w.alloc (.cells ⟨L.map (Value.int k) ++ more⟩ t fr))) (mem.set n (.seq t k L)) (w.alloc (.cells ⟨L.map (Value.int k) ++ more⟩ t fr)) :=
  h.adoptS (Below.of_alloc w _) hn (Nat.le_refl _) (by simp) (s0 := .seq t k L) ⟨more, fr, heap_alloc_self w _, hfr⟩

end Go.Proofs.Ytihmhnfjdkkbgaa.RX
