/- RX, part K: code: branches that meet again, blocks, loops; a call's contract out of a run. -/
import Derived.Test.YtihmhnfjdkkbgaaRxJ
import Derived.LoopN
noncomputable section
namespace Go.Proofs.Ytihmhnfjdkkbgaa.RX
set_option linter.unusedSimpArgs false
open Go Go.RowKit

/-! ### Objects that are the same -/
mutual
def CV.eqB : CV → CV → Bool
  | .lit k n, .lit k' n' => decide (k = k') && decide (n = n')
  | .ptr cs off, .ptr cs' off' => decide (off = off') && CV.eqL cs cs'
  | .clo f caps, .clo f' caps' => decide (f = f') && CV.eqL caps caps'
  | _, _ => false
def CV.eqL : List CV → List CV → Bool
  | [], [] => true
  | c :: cs, d :: ds => CV.eqB c d && CV.eqL cs ds
  | _, _ => false
end
mutual
theorem CV.eqB_is : ∀ (c d : CV), CV.eqB c d = true → c = d
  | .lit k n, .lit k' n', h => by
    simp only [CV.eqB, Bool.and_eq_true, decide_eq_true_eq] at h
    rw [h.1, h.2]
  | .ptr cs off, .ptr cs' off', h => by
    simp only [CV.eqB, Bool.and_eq_true, decide_eq_true_eq] at h
    rw [h.1, CV.eqL_is _ _ h.2]
  | .clo f caps, .clo f' caps', h => by
    simp only [CV.eqB, Bool.and_eq_true, decide_eq_true_eq] at h
    rw [h.1, CV.eqL_is _ _ h.2]
  | .any, _, h => by simp [CV.eqB] at h
  | .int _ _, _, h => by simp [CV.eqB] at h
  | .str _, _, h => by simp [CV.eqB] at h
  | .lit _ _, .any, h => by simp [CV.eqB] at h
  | .lit _ _, .int _ _, h => by simp [CV.eqB] at h
  | .lit _ _, .str _, h => by simp [CV.eqB] at h
  | .lit _ _, .ptr _ _, h => by simp [CV.eqB] at h
  | .lit _ _, .clo _ _, h => by simp [CV.eqB] at h
  | .ptr _ _, .any, h => by simp [CV.eqB] at h
  | .ptr _ _, .int _ _, h => by simp [CV.eqB] at h
  | .ptr _ _, .str _, h => by simp [CV.eqB] at h
  | .ptr _ _, .lit _ _, h => by simp [CV.eqB] at h
  | .ptr _ _, .clo _ _, h => by simp [CV.eqB] at h
  | .clo _ _, .any, h => by simp [CV.eqB] at h
  | .clo _ _, .int _ _, h => by simp [CV.eqB] at h
  | .clo _ _, .str _, h => by simp [CV.eqB] at h
  | .clo _ _, .lit _ _, h => by simp [CV.eqB] at h
  | .clo _ _, .ptr _ _, h => by simp [CV.eqB] at h
theorem CV.eqL_is : ∀ (c d : List CV), CV.eqL c d = true → c = d
  | [], [], _ => rfl
  | c :: cs, d :: ds, h => by
    simp only [CV.eqL, Bool.and_eq_true] at h
    rw [CV.eqB_is _ _ h.1, CV.eqL_is _ _ h.2]
  | [], _ :: _, h => by simp [CV.eqL] at h
  | _ :: _, [], h => by simp [CV.eqL] at h
end

/-! ### Two ways that meet again -/
theorem size_bif {b : Bool} {x y : ByteArray} {m : Nat} (hx : x.size = m) (hy : y.size = m) : (bif b then x else y).size = m := by cases b <;> assumption
def eqInt (x y : Int) : Bool := decide (x = y)
def mergeC (m0 : Nat) (b : Bool) (c d : RC) : RC :=
  match c.num, d.num with
  | some (l, k, x), some (l', k', y) => if k = k' then
      (match l && l' && eqInt x y with
      | true => .lit k x
      | false => .int k (bif b then x else y))
    else .any
  | _, _ => match c, d with
    | .blit x, .blit y => (match x == y with
      | true => .blit x
      | false => .bool (bif b then x else y))
    | .blit x, .bool y | .bool x, .blit y | .bool x, .bool y => .bool (bif b then x else y)
    | .str x, .str y => .str (bif b then x else y)
    | .strn x m hx, .strn y m' hy => if h : m = m' then .strn (bif b then x else y) m (size_bif hx (h ▸ hy)) else .str (bif b then x else y)
    | .strn x _ _, .str y => .str (bif b then x else y)
    | .str x, .strn y _ _ => .str (bif b then x else y)
    | .sq n l, .sq n' l' => if n = n' ∧ n < m0 then .sq n (bif b then l else l') else .any
    | .co cs off, .co cs' off' => if CV.eqB (.ptr cs off) (.ptr cs' off') = true then .co cs off else .any
    | .fn f caps, .fn f' caps' => if f = f' ∧ caps = [] ∧ caps' = [] then .fn f [] else .any
    | .ptr n o, .ptr n' o' => if n = n' ∧ o = o' ∧ n < m0 then .ptr n o else .any
    | .frz k L n, .frz k' M n' => if k = k' ∧ n = n' then .frz k (bif b then L else M) n else .any
    | .slc n o l cap, .slc n' o' l' cap' => if n = n' ∧ o = o' ∧ l = l' ∧ cap = cap' ∧ n < m0 then .slc n o l cap else .any
    | _, _ => .any

def cutβ (β : Env) (m0 : Nat) : Env := ⟨fun n => if n < m0 then β n else none, β.w, β.away⟩
theorem cutβ_at {β : Env} {m0 n k : Nat} (h : n < m0) (hb : β n = some k) : cutβ β m0 n = some k := by
  show (if n < m0 then β n else none) = some k
  rw [if_pos h]; exact hb
theorem cutβ_some {β : Env} {m0 n k : Nat} (h : cutβ β m0 n = some k) : n < m0 ∧ β n = some k := by
  have h' : (if n < m0 then β n else none) = some k := h
  split at h'
  · rename_i hn; exact ⟨hn, h'⟩
  · cases h'
theorem Frozen.cut {β : Env} {b off : Nat} {k : IntKind} {L : List Int} {n : Nat} (h : Frozen β b off k L n) (m0 : Nat) : Frozen (cutβ β m0) b off k L n :=
  ⟨h.lt, fun m hm => h.no m (cutβ_some hm).2, h.far, h.cells⟩

theorem own_cut {β : Env} {m0 : Nat} (b : Nat) (h : β.own b) : (cutβ β m0).own b ∧ (cutβ β m0).w.heap[b]? = β.w.heap[b]? := ⟨⟨h.1, fun m hm => h.2.1 m (cutβ_some hm).2, h.2.2⟩, rfl⟩
theorem RC.sq_len {β : Env} {n : Nat} {l l' : Nat} {v : Value} (h : (RC.sq n l).is β v) (e : l' = l) : (RC.sq n l').is β v := e ▸ h
theorem RC.sq_cut {β : Env} {n l m0 : Nat} {v : Value} (h : (RC.sq n l).is β v) (hn : n < m0) : (RC.sq n l).is (cutβ β m0) v := by
  rcases h with ⟨b, c, h1, h2, h3, h4⟩ | h
  · exact .inl ⟨b, c, cutβ_at hn h1, h2, h3, h4⟩
  · exact .inr h
theorem mergeC_true {m0 : Nat} {c d : RC} {β : Env} {v : Value} (h : c.is β v) : (mergeC m0 true c d).is (cutβ β m0) v := by
  unfold mergeC
  split
  · rename_i l k x l' k' y h1 h2
    have e := RC.num_is h1 h
    subst e
    split
    · split <;> exact rfl
    · trivial
  · split <;> try trivial
    · split <;> exact h
    all_goals try exact h
    · split <;> exact h
    · split
      · rename_i hc
        exact RC.sq_cut h hc.2
      · trivial
    · split
      · exact CV.is.move (own_cut (m0 := m0)) _ _ h
      · trivial
    · split
      · rename_i hc
        obtain ⟨vs, h1, h2⟩ := h
        rw [hc.2.1] at h1
        rw [all2_nil_left h1] at h2
        exact ⟨[], trivial, h2⟩
      · trivial
    · split
      · rename_i hc
        obtain ⟨b, hb, e⟩ := h
        exact ⟨b, cutβ_at hc.2.2 hb, e⟩
      · trivial
    · split
      · rename_i hc
        obtain ⟨h1, h2⟩ := hc
        obtain ⟨b, off, c, hb, e, hf⟩ := h
        exact ⟨b, off, c, hb, e, hf.cut m0⟩
      · trivial
    · split
      · rename_i hc
        obtain ⟨b, c, hb, e⟩ := h
        exact ⟨b, c, cutβ_at hc.2.2.2.2 hb, e⟩
      · trivial
theorem mergeC_false {m0 : Nat} {c d : RC} {β : Env} {v : Value} (h : d.is β v) : (mergeC m0 false c d).is (cutβ β m0) v := by
  unfold mergeC
  split
  · rename_i l k x l' k' y h1 h2
    have e := RC.num_is h2 h
    subst e
    split
    · rename_i hk
      subst hk
      split
      · rename_i he
        simp only [Bool.and_eq_true, eqInt, decide_eq_true_eq] at he
        rw [he.2]; exact rfl
      · exact rfl
    · trivial
  · split <;> try trivial
    · split
      · rename_i x y _ _ he
        have hxy : x = y := by simpa using he
        rw [hxy]; exact h
      · exact h
    all_goals try exact h
    · split <;> exact h
    · split
      · rename_i hc
        obtain ⟨e, h2⟩ := hc
        subst e
        exact RC.sq_cut h h2
      · trivial
    · split
      · rename_i hc
        have e := CV.eqB_is _ _ hc
        injection e with e1 e2
        subst e1; subst e2
        exact CV.is.move (own_cut (m0 := m0)) _ _ h
      · trivial
    · split
      · rename_i hc
        obtain ⟨rfl, _, rfl⟩ := hc
        obtain ⟨vs, h1, h2⟩ := h
        rw [all2_nil_left h1] at h2
        exact ⟨[], trivial, h2⟩
      · trivial
    · split
      · rename_i hc
        obtain ⟨b, hb, e⟩ := h
        obtain ⟨h1, h2, h3⟩ := hc
        subst h1 h2
        exact ⟨b, cutβ_at h3 hb, e⟩
      · trivial
    · split
      · rename_i hc
        obtain ⟨h1, h2⟩ := hc
        subst h1 h2
        obtain ⟨b, off, c, hb, e, hf⟩ := h
        exact ⟨b, off, c, hb, e, hf.cut m0⟩
      · trivial
    · split
      · rename_i hc
        obtain ⟨b, c, hb, e⟩ := h
        obtain ⟨h1, h2, h3, h4, h5⟩ := hc
        subst h1 h2 h3 h4
        exact ⟨b, c, cutβ_at h5 hb, e⟩
      · trivial

def zipM {α γ : Type} (f : α → α → γ) : List α → List α → Option (List γ)
  | [], [] => some []
  | x :: r, y :: s => match zipM f r s with
    | some l => some (f x y :: l)
    | none => none
  | _, _ => none
theorem zipM_left {α γ δ : Type} {f : α → α → γ} {R : α → δ → Prop} {R' : γ → δ → Prop} (h : ∀ x y v, R x v → R' (f x y) v) : ∀ {l m : List α} {o : List γ} {vs : List δ}, zipM f l m = some o → all2 R l vs → all2 R' o vs
  | [], [], o, vs, e, r => by simp [zipM] at e; subst e; rw [all2_nil_left r]; trivial
  | x :: l, y :: m, o, vs, e, r => by
    obtain ⟨v, vs', rfl, r1, r2⟩ := all2_cons_left r
    unfold zipM at e
    split at e
    · rename_i l' hl; cases e; exact ⟨h x y v r1, zipM_left h hl r2⟩
    · cases e
  | [], _ :: _, _, _, e, _ => by cases e
  | _ :: _, [], _, _, e, _ => by cases e
theorem zipM_right {α γ δ : Type} {f : α → α → γ} {R : α → δ → Prop} {R' : γ → δ → Prop} (h : ∀ x y v, R y v → R' (f x y) v) : ∀ {l m : List α} {o : List γ} {vs : List δ}, zipM f l m = some o → all2 R m vs → all2 R' o vs
  | [], [], o, vs, e, r => by simp [zipM] at e; subst e; rw [all2_nil_left r]; trivial
  | x :: l, y :: m, o, vs, e, r => by
    obtain ⟨v, vs', rfl, r1, r2⟩ := all2_cons_left r
    unfold zipM at e
    split at e
    · rename_i l' hl; cases e; exact ⟨h x y v r1, zipM_right h hl r2⟩
    · cases e
  | [], _ :: _, _, _, e, _ => by cases e
  | _ :: _, [], _, _, e, _ => by cases e

def mergeS (m0 : Nat) (b : Bool) (x y : SV) : SV :=
  match x, y with
  | .one c, .one d => .one (mergeC m0 b c d)
  | .agg cs, .agg ds => match zipM (mergeC m0 b) cs ds with
    | some es => .agg es
    | none => .one .any
  | _, _ => .one .any
def mergeT (m0 : Nat) (b : Bool) (x y : TV) : TV :=
  match x, y with
  | .sv s, .sv t => .sv (mergeS m0 b s t)
  | .tup [], .tup [] => .tup []
  | _, _ => .sv (.one .any)
theorem mergeS_true {m0 : Nat} {c d : SV} {β : Env} {v : Value} (h : c.is β v) : (mergeS m0 true c d).is (cutβ β m0) v := by
  unfold mergeS
  split <;> try trivial
  · exact mergeC_true h
  · split
    · rename_i es he
      obtain ⟨vs, e, r⟩ := h
      exact ⟨vs, e, zipM_left (R := RC.is β) (R' := RC.is (cutβ β m0)) (fun _ _ _ r => mergeC_true r) he r⟩
    · trivial
theorem mergeS_false {m0 : Nat} {c d : SV} {β : Env} {v : Value} (h : d.is β v) : (mergeS m0 false c d).is (cutβ β m0) v := by
  unfold mergeS
  split <;> try trivial
  · exact mergeC_false h
  · split
    · rename_i es he
      obtain ⟨vs, e, r⟩ := h
      exact ⟨vs, e, zipM_right (R := RC.is β) (R' := RC.is (cutβ β m0)) (fun _ _ _ r => mergeC_false r) he r⟩
    · trivial
theorem mergeT_true {m0 : Nat} {c d : TV} {β : Env} {v : Value} (h : c.is β v) : (mergeT m0 true c d).is (cutβ β m0) v := by
  unfold mergeT
  split <;> try trivial
  · exact mergeS_true h
  · obtain ⟨vs, e, r⟩ := h; exact ⟨vs, e, by rw [all2_nil_left r]; trivial⟩
theorem mergeT_false {m0 : Nat} {c d : TV} {β : Env} {v : Value} (h : d.is β v) : (mergeT m0 false c d).is (cutβ β m0) v := by
  unfold mergeT
  split <;> try trivial
  · exact mergeS_false h
  · obtain ⟨vs, e, r⟩ := h; exact ⟨vs, e, by rw [all2_nil_left r]; trivial⟩

def mergeSlot (m0 : Nat) (b : Bool) (x y : Slot) : Slot :=
  match x, y with
  | .free, .free => .free
  | .blk t cs, .blk t' ds => if t = t' then
      (match zipM (mergeC m0 b) cs ds with
      | some es => .blk t es
      | none => .dead)
    else .dead
  | .seq t k L, .seq t' k' L' => if t = t' ∧ k = k' then .seq t k (bif b then L else L') else .dead
  | _, _ => .dead

def mergeSt (m0 : Nat) (b : Bool) (x y : St) : Option St :=
  match zipM (mergeSlot m0 b) (x.mem.take m0) (y.mem.take m0) with
  | some ms => some ⟨Tm.zip (mergeT m0 b) x.tmps y.tmps, ms⟩
  | none => none

theorem zipM_get {α γ : Type} {f : α → α → γ} : ∀ {l m : List α} {o : List γ} {i : Nat} {c : γ}, zipM f l m = some o → o[i]? = some c → ∃ x y, l[i]? = some x ∧ m[i]? = some y ∧ c = f x y
  | [], [], o, i, c, e, h => by simp [zipM] at e; subst e; simp at h
  | x :: l, y :: m, o, i, c, e, h => by
    unfold zipM at e
    split at e
    · rename_i l' hl
      cases e
      cases i with
      | zero => simp at h; exact ⟨x, y, by simp, by simp, h.symm⟩
      | succ i => simp at h; obtain ⟨a, b, h1, h2, h3⟩ := zipM_get hl h; exact ⟨a, b, by simpa using h1, by simpa using h2, h3⟩
    · cases e
  | [], _ :: _, _, _, _, e, _ => by cases e
  | _ :: _, [], _, _, _, e, _ => by cases e
theorem zipM_get' {α γ : Type} {f : α → α → γ} : ∀ {l m : List α} {o : List γ} {i : Nat} {x : α}, zipM f l m = some o → l[i]? = some x → ∃ y, m[i]? = some y ∧ o[i]? = some (f x y)
  | [], [], o, i, c, e, h => by simp at h
  | x :: l, y :: m, o, i, c, e, h => by
    unfold zipM at e
    split at e
    · rename_i l' hl
      cases e
      cases i with
      | zero => simp at h; subst h; exact ⟨y, by simp, by simp⟩
      | succ i => simp at h; obtain ⟨b, h1, h2⟩ := zipM_get' hl h; exact ⟨b, by simpa using h1, by simpa using h2⟩
    · cases e
  | [], _ :: _, _, _, _, e, _ => by cases e
  | _ :: _, [], _, _, _, e, _ => by cases e
theorem zipM_get'' {α γ : Type} {f : α → α → γ} : ∀ {l m : List α} {o : List γ} {i : Nat} {y : α}, zipM f l m = some o → m[i]? = some y → ∃ x, l[i]? = some x ∧ o[i]? = some (f x y)
  | [], [], o, i, c, e, h => by simp at h
  | x :: l, y :: m, o, i, c, e, h => by
    unfold zipM at e
    split at e
    · rename_i l' hl
      cases e
      cases i with
      | zero => simp at h; subst h; exact ⟨x, by simp, by simp⟩
      | succ i => simp at h; obtain ⟨b, h1, h2⟩ := zipM_get'' hl h; exact ⟨b, by simpa using h1, by simpa using h2⟩
    · cases e
  | [], _ :: _, _, _, _, e, _ => by cases e
  | _ :: _, [], _, _, _, e, _ => by cases e

section
variable {S : Nat → Option Nat} {B : Base} {w0 : World} {β : Env} {w : World}

theorem mergeSlot_is {m0 : Nat} {b : Bool} {x y z : Slot} (hz : z = mergeSlot m0 b x y) (hl : z.live = true) {β : Env} {w : World} {k : Nat} (h : SlotIs β w k (bif b then x else y)) : (bif b then x else y).live = true ∧ SlotIs (cutβ β m0) w k z := by
  subst hz
  unfold mergeSlot at hl ⊢
  split at hl <;> try (cases hl; done)
  · rename_i t cs t' ds
    split at hl
    · rename_i ht
      subst ht
      rw [if_pos rfl]
      split at hl
      · rename_i es he
        cases b with
        | true =>
          obtain ⟨vs, more, fr, h1, h2, h3⟩ := h
          exact ⟨rfl, vs, more, fr, h1, zipM_left (R := RC.is β) (R' := RC.is (cutβ β m0)) (fun _ _ _ r => mergeC_true r) he h2, h3⟩
        | false =>
          obtain ⟨vs, more, fr, h1, h2, h3⟩ := h
          exact ⟨rfl, vs, more, fr, h1, zipM_right (R := RC.is β) (R' := RC.is (cutβ β m0)) (fun _ _ _ r => mergeC_false r) he h2, h3⟩
      · cases hl
    · cases hl
  · rename_i t k L t' k' L'
    split at hl
    · rename_i ht
      obtain ⟨rfl, rfl⟩ := ht
      rw [if_pos ⟨rfl, rfl⟩]
      cases b <;> exact ⟨rfl, h⟩
    · cases hl
theorem mergeSlot_live {m0 : Nat} {b : Bool} {x y : Slot} (hl : (mergeSlot m0 b x y).live = true) : (bif b then x else y).live = true := by
  unfold mergeSlot at hl
  split at hl <;> try (cases hl; done)
  · cases b <;> rfl
  · cases b <;> rfl
theorem mergeSlot_ne {m0 : Nat} {b : Bool} {x y : Slot} (h : (bif b then x else y) ≠ .free) : mergeSlot m0 b x y ≠ .free := by
  unfold mergeSlot
  split
  · cases b <;> exact absurd rfl h
  · split
    · split <;> simp
    · simp
  · split <;> simp
  · simp
theorem mergeSlot_blk {m0 : Nat} {b : Bool} {x y : Slot} {t : TypeId} {cs : List RC} (h : .blk t cs = mergeSlot m0 b x y) : ∃ t' cs', (bif b then x else y) = .blk t' cs' := by
  unfold mergeSlot at h
  split at h <;> try (cases h; done)
  · cases b <;> exact ⟨_, _, rfl⟩
  · split at h <;> cases h
theorem mergeSlot_seq {m0 : Nat} {b : Bool} {x y : Slot} {t : TypeId} {k : IntKind} {L : List Int} (h : .seq t k L = mergeSlot m0 b x y) : (bif b then x else y) = .seq t k L := by
  unfold mergeSlot at h
  split at h <;> try (cases h; done)
  · split at h
    · split at h <;> cases h
    · cases h
  · split at h
    · rename_i hc
      obtain ⟨rfl, rfl⟩ := hc
      cases h
      cases b <;> rfl
    · cases h
theorem zipSlots {m0 : Nat} {b : Bool} {x y z : List Slot} (hz : zipM (mergeSlot m0 b) (x.take m0) (y.take m0) = some z) {n : Nat} {s : Slot} (hn : z[n]? = some s) : n < m0 ∧ ∃ sx sy, x[n]? = some sx ∧ y[n]? = some sy ∧ s = mergeSlot m0 b sx sy := by
  obtain ⟨sx, sy, hx, hy, e⟩ := zipM_get hz hn
  have hlt : n < m0 := by
    rcases Nat.lt_or_ge n m0 with h' | h'
    · exact h'
    · rw [List.getElem?_eq_none (by simp; omega)] at hx; cases hx
  rw [List.getElem?_take_of_lt hlt] at hx hy
  exact ⟨hlt, sx, sy, hx, hy, e⟩
theorem MemRel.merge {m0 : Nat} (hS : ∀ n k, S n = some k → n < m0) {b : Bool} {x y z : List Slot} (hz : zipM (mergeSlot m0 b) (x.take m0) (y.take m0) = some z) (h : MemRel S B w0 β (bif b then x else y) w) : MemRel S B w0 (cutβ β m0) z w := by
  have old : ∀ n s, z[n]? = some s → n < m0 ∧ ∃ sx sy, (bif b then x else y)[n]? = some (bif b then sx else sy) ∧ s = mergeSlot m0 b sx sy := by
    intro n s hn
    obtain ⟨hlt, sx, sy, hx, hy, e⟩ := zipSlots hz hn
    exact ⟨hlt, sx, sy, by cases b <;> assumption, e⟩
  refine ⟨h.wd, h.aw, h.far, fun n t cs hn => ?_, fun n t k L hn => ?_, fun a c sa sc k hla hlc l1 l2 h1 h2 => ?_, fun n k h1 => h.rng n k (cutβ_some h1).2, fun n k h1 => ?_, fun n k h1 => cutβ_at (hS n k h1) (h.came n k h1), h.kept, h.sz⟩
  · obtain ⟨hlt, sx, sy, ho, e⟩ := old n _ hn
    have hl := mergeSlot_live (m0 := m0) (b := b) (x := sx) (y := sy) (by rw [← e]; rfl)
    obtain ⟨t', cs', hb⟩ := mergeSlot_blk e
    obtain ⟨k, hk, _⟩ := h.blk n t' cs' (by rw [ho, hb])
    exact ⟨k, cutβ_at hlt hk, (mergeSlot_is e rfl (h.slot ho hl hk)).2⟩
  · obtain ⟨hlt, sx, sy, ho, e⟩ := old n _ hn
    have hl := mergeSlot_live (m0 := m0) (b := b) (x := sx) (y := sy) (by rw [← e]; rfl)
    refine ⟨fun b' hb' => ?_, fun hno => ?_⟩
    · have hb := (cutβ_some hb').2
      exact (mergeSlot_is e rfl (h.slot ho hl hb)).2
    · rw [mergeSlot_seq e] at ho
      refine (h.seq n t k L ho).2 ?_
      have h' : (if n < m0 then β n else none) = none := hno
      rwa [if_pos hlt] at h'
  · obtain ⟨_, sx, sy, ho, e⟩ := old a _ hla
    obtain ⟨_, tx, ty, ho', e'⟩ := old c _ hlc
    rw [e] at l1
    rw [e'] at l2
    exact h.inj a c _ _ k ho ho' (mergeSlot_live l1) (mergeSlot_live l2) (cutβ_some h1).2 (cutβ_some h2).2
  · obtain ⟨hlt, hb⟩ := cutβ_some h1
    obtain ⟨s, hs, hne⟩ := h.used n k hb
    cases b with
    | true =>
      obtain ⟨y', h1, h2⟩ := zipM_get' hz (i := n) (x := s) (by rw [List.getElem?_take_of_lt hlt]; exact hs)
      exact ⟨_, h2, mergeSlot_ne (b := true) hne⟩
    | false =>
      obtain ⟨y', h1, h2⟩ := zipM_get'' hz (i := n) (y := s) (by rw [List.getElem?_take_of_lt hlt]; exact hs)
      exact ⟨_, h2, mergeSlot_ne (b := false) hne⟩

theorem mergeSt_sound {m0 : Nat} (hS : ∀ n k, S n = some k → n < m0) {b : Bool} {x y z : St} (hz : mergeSt m0 b x y = some z) {a : Act} (h : Rel S B w0 β (bif b then x else y) a w) : Rel S B w0 (cutβ β m0) z a w := by
  unfold mergeSt at hz
  split at hz
  · rename_i ms h2
    cases hz
    refine ⟨fun i c hc => ?_, h.df, MemRel.merge hS h2 (by cases b <;> exact h.mm)⟩
    obtain ⟨u, v, h3, h4, rfl⟩ := Tm.zip_get hc
    cases b with
    | true =>
      obtain ⟨w, hw, hr⟩ := h.tm i u h3
      exact ⟨w, hw, mergeT_true hr⟩
    | false =>
      obtain ⟨w, hw, hr⟩ := h.tm i v h4
      exact ⟨w, hw, mergeT_false hr⟩
  · cases hz
end

def simpleT : Tree → Option (List Prop × St)
  | .leaf .normal st => some ([], st)
  | .need p t => match simpleT t with
    | some (l, st) => some (p :: l, st)
    | none => none
  | _ => none
theorem simpleT_wp {K : Ex → St → Prop} : ∀ {t : Tree} {l : List Prop} {st : St}, simpleT t = some (l, st) → (∀ p ∈ l, p) → K .normal st → t.wp K
  | .leaf .normal st', l, st, h, hl, hk => by simp [simpleT] at h; obtain ⟨_, rfl⟩ := h; exact hk
  | .need p t, l, st, h, hl, hk => by
    unfold simpleT at h
    split at h
    · rename_i l' st' ht
      cases h
      exact ⟨hl p (by simp), simpleT_wp ht (fun q hq => hl q (by simp [hq])) hk⟩
    · cases h
  | .leaf (.exit _) _, _, _, h, _, _ => by simp [simpleT] at h
  | .leaf .ret _, _, _, h, _, _ => by simp [simpleT] at h
  | .br _ _ _, _, _, h, _, _ => by simp [simpleT] at h
  | .stuck, _, _, h, _, _ => by simp [simpleT] at h

def joinT (m0 : Nat) (b : Bool) (t e : Tree) : Tree :=
  match simpleT t, simpleT e with
  | some (l, x), some (l', y) => match mergeSt m0 b x y with
    | some z => needs (l.map fun p => b = true → p) (needs (l'.map fun p => b = false → p) (.leaf .normal z))
    | none => .br b t e
  | _, _ => .br b t e

/-! ### Slices and objects that nobody writes from here on -/
/-- A cell as it will stay. -/
def RC.cv (F : List Nat) (mem : List Slot) : Nat → RC → Option CV
  | 0, _ => none
  | fuel + 1, c => match c with
    | .lit k n => some (.lit k n)
    | .int k x => some (.int k x)
    | .bit k x _ => some (.int k x)
    | .str s => some (.str s)
    | .strn s _ _ => some (.str s)
    | .co cs off => some (.ptr cs off)
    | .clo f caps => some (.clo f caps)
    | .ptr n off => if F.contains n then
        (match blkAt mem n with
        | some (_, cs) => (cvL (fun c => RC.cv F mem fuel c) cs).map fun ds => .ptr ds off
        | none => none)
      else none
    | .fn f caps => (cvL (fun x => RC.cv F mem fuel (.ptr x.1 x.2)) caps).map fun ds => .clo f ds
    | _ => none
where cvL {α : Type} (g : α → Option CV) : List α → Option (List CV)
  | [] => some []
  | c :: r => match g c, cvL g r with
    | some d, some l => some (d :: l)
    | _, _ => none
def cvDepth : Nat := 6
def freezeC (F : List Nat) (mem : List Slot) (c : RC) : RC :=
  match c with
  | .slc n off len cap => if F.contains n then
      (match blkAt mem n with
      | some (_, cs) => match kindOf cs with
        | some k => match numsOf k ((cs.drop off).take len) with
          | some xs => if xs.length = len then .frz k xs len else .any
          | none => .any
        | none => .any
      | none => .any)
    else .slc n off len cap
  | .ptr n off => if F.contains n then
      (match RC.cv F mem cvDepth (.ptr n off) with
      | some (.ptr cs off) => .co cs off
      | _ => .any)
    else .ptr n off
  | .fn f [] => .fn f []
  | .fn f caps => match RC.cv F mem cvDepth (.fn f caps) with
    | some (.clo f caps) => .clo f caps
    | _ => .any
  | .sq n len => if F.contains n then .any else .sq n len
  | .sqs n lo hi => if F.contains n then .any else .sqs n lo hi
  | .sqp n j => if F.contains n then .any else .sqp n j
  | c => c
def freezeS (F : List Nat) (mem : List Slot) : SV → SV
  | .one c => .one (freezeC F mem c)
  | .agg cs => .agg (cs.map (freezeC F mem))
def freezeT (F : List Nat) (mem : List Slot) : TV → TV
  | .sv s => .sv (freezeS F mem s)
  | .tup ss => .tup (ss.map (freezeS F mem))
def freezeSlots (F : List Nat) (mem : List Slot) : Nat → List Slot → List Slot
  | _, [] => []
  | n, .blk t cs :: r => (if F.contains n then Slot.dead else .blk t (cs.map (freezeC F mem))) :: freezeSlots F mem (n + 1) r
  | n, .seq t k L :: r => (if F.contains n then Slot.dead else .seq t k L) :: freezeSlots F mem (n + 1) r
  | n, .free :: r => .free :: freezeSlots F mem (n + 1) r
  | n, .dead :: r => .dead :: freezeSlots F mem (n + 1) r
/-- The names that are spoken of no more. -/
def deadsOf : Nat → List Slot → List Nat
  | _, [] => []
  | n, .dead :: r => n :: deadsOf (n + 1) r
  | n, .blk _ _ :: r => deadsOf (n + 1) r
  | n, .seq _ _ _ :: r => deadsOf (n + 1) r
  | n, .free :: r => deadsOf (n + 1) r
def withDeads (F : List Nat) (mem : List Slot) : List Nat := F ++ deadsOf 0 mem
theorem deadsOf_mem : ∀ {l : List Slot} {i n : Nat}, l[n]? = some .dead → i + n ∈ deadsOf i l
  | [], _, _, h => by simp at h
  | x :: l, i, 0, h => by simp at h; subst h; simp [deadsOf]
  | x :: l, i, n + 1, h => by
    have := deadsOf_mem (l := l) (i := i + 1) (n := n) (by simpa using h)
    rw [show i + 1 + n = i + (n + 1) by omega] at this
    cases x <;> simp [deadsOf, this]
theorem withDeads_live {S : Nat → Option Nat} {B : Base} {w0 : World} {β : Env} {mem : List Slot} {w : World} (hm : MemRel S B w0 β mem w) {F : List Nat} {n k : Nat} (h : (withDeads F mem).contains n = false) (hb : β n = some k) : ∃ s, mem[n]? = some s ∧ s.live = true := by
  obtain ⟨s, hs, hne⟩ := hm.used n k hb
  cases s with
  | free => exact absurd rfl hne
  | blk t cs => exact ⟨_, hs, rfl⟩
  | seq t i L => exact ⟨_, hs, rfl⟩
  | dead =>
    have := deadsOf_mem (i := 0) hs
    rw [Nat.zero_add] at this
    simp [withDeads, this] at h
def freezeSt (F : List Nat) (st : St) : St := ⟨st.tmps.map (freezeT (withDeads F st.mem) st.mem), freezeSlots (withDeads F st.mem) st.mem 0 st.mem⟩
def slcOf : TV → List Nat
  | .sv (.one (.slc n _ _ _)) => [n]
  | .sv (.agg cs) => cs.flatMap fun | .slc n _ _ _ => [n] | _ => []
  | .tup ss => ss.flatMap fun
    | .one (.slc n _ _ _) => [n]
    | .agg cs => cs.flatMap fun | .slc n _ _ _ => [n] | _ => []
    | _ => []
  | _ => []
/-- The blocks to which a cell leads. -/
def RC.reach (mem : List Slot) : Nat → RC → List Nat
  | 0, _ => []
  | fuel + 1, c => match c with
    | .ptr n _ => n :: (match blkAt mem n with
      | some (_, cs) => cs.flatMap fun c => RC.reach mem fuel c
      | none => [])
    | .fn _ caps => caps.flatMap fun x => RC.reach mem fuel (.ptr x.1 x.2)
    | _ => []
def ptrsOf (mem : List Slot) : TV → List Nat
  | .sv (.one c) => RC.reach mem cvDepth c
  | .tup ss => ss.flatMap fun
    | .one c => RC.reach mem cvDepth c
    | _ => []
  | _ => []
def minusβ (β : Env) (F : List Nat) : Env := ⟨fun n => if F.contains n then none else β n, β.w, β.away⟩
theorem minusβ_some {β : Env} {F : List Nat} {n k : Nat} (h : minusβ β F n = some k) : F.contains n = false ∧ β n = some k := by
  have h' : (if F.contains n then none else β n) = some k := h
  split at h'
  · cases h'
  · rename_i hn; exact ⟨by simpa using hn, h'⟩
theorem minusβ_at {β : Env} {F : List Nat} {n k : Nat} (h : F.contains n = false) (hb : β n = some k) : minusβ β F n = some k := by
  show (if F.contains n then none else β n) = some k
  rw [h]; exact hb
theorem Frozen.minus {β : Env} {b off : Nat} {k : IntKind} {L : List Int} {n : Nat} (h : Frozen β b off k L n) (F : List Nat) : Frozen (minusβ β F) b off k L n :=
  ⟨h.lt, fun m hm => h.no m (minusβ_some hm).2, h.far, h.cells⟩
theorem own_minus {β : Env} (F : List Nat) (b : Nat) (h : β.own b) : (minusβ β F).own b ∧ (minusβ β F).w.heap[b]? = β.w.heap[b]? := ⟨⟨h.1, fun m hm => h.2.1 m (minusβ_some hm).2, h.2.2⟩, rfl⟩

section
variable {S : Nat → Option Nat} {B : Base} {w0 : World} {β : Env} {mem : List Slot} {w : World}
theorem free_own (hm : MemRel S B w0 β mem w) {F : List Nat} (hF : ∀ n k, F.contains n = false → β n = some k → ∃ s, mem[n]? = some s ∧ s.live = true) (hS : ∀ n, S n = none) {n b : Nat} {s : Slot} (hs : mem[n]? = some s) (hl : s.live = true) (hb : β n = some b) (hn : F.contains n = true) : (minusβ β F).own b := by
  have hr := hm.rng n b hb
  refine ⟨by show b < β.w.heap.size; rw [hm.wd]; exact hr.2, fun m hm' => ?_, fun ha => ?_⟩
  · obtain ⟨q1, q2⟩ := minusβ_some hm'
    obtain ⟨s', hs', hl'⟩ := hF m b q1 q2
    have := hm.inj m n _ _ b hs' hs hl' hl q2 hb
    subst this
    rw [hn] at q1; cases q1
  · have := hm.far b (hm.aw ▸ ha)
    rcases hr.1 with hs | hs
    · (obtain ⟨n', hs⟩ := hs; rw [hS n'] at hs; cases hs)
    · omega
theorem cvL_is {α : Type} {g : α → Option CV} {R : α → Value → Prop} {β' : Env} (h : ∀ c d v, g c = some d → R c v → CV.is β' d v) : ∀ {l : List α} {ds : List CV} {vs : List Value}, RC.cv.cvL g l = some ds → all2 R l vs → CV.isL β' ds vs
  | [], ds, vs, e, r => by simp [RC.cv.cvL] at e; subst e; rw [all2_nil_left r]; simp only [CV.isL]
  | c :: l, ds, vs, e, r => by
    obtain ⟨v, vs', rfl, r1, r2⟩ := all2_cons_left r
    unfold RC.cv.cvL at e
    split at e
    · rename_i d l' h1 h2
      cases e
      simp only [CV.isL]
      exact ⟨h c d v h1 r1, cvL_is h h2 r2⟩
    · cases e
theorem RC.cv_is (hm : MemRel S B w0 β mem w) {F : List Nat} (hF : ∀ n k, F.contains n = false → β n = some k → ∃ s, mem[n]? = some s ∧ s.live = true) (hS : ∀ n, S n = none) : ∀ (fuel : Nat) {c : RC} {d : CV} {v : Value}, RC.cv F mem fuel c = some d → c.is β v → CV.is (minusβ β F) d v
  | 0, c, d, v, h, _ => by cases h
  | fuel + 1, c, d, v, h, r => by
    unfold RC.cv at h
    cases c <;> dsimp only at h <;> try (cases h; done)
    case lit k n => cases h; simp only [CV.is]; exact r
    case int k x => cases h; simp only [CV.is]; exact r
    case bit k x hx => cases h; simp only [CV.is]; exact r
    case str s => cases h; simp only [CV.is]; exact r
    case strn s m hs => cases h; simp only [CV.is]; exact r
    case co cs off => cases h; exact CV.is.move (own_minus F) _ _ r
    case clo f caps => cases h; exact CV.is.move (own_minus F) _ _ r
    case ptr n off =>
      split at h
      · rename_i hn
        split at h
        · rename_i t cs hblk
          obtain ⟨ds, hds, rfl⟩ := Option.map_eq_some_iff.1 h
          obtain ⟨b, hb, e⟩ := r
          obtain ⟨vs, more, fr, h1, h2, h3⟩ := hm.at hblk hb
          simp only [CV.is]
          refine ⟨b, e, free_own hm hF hS (blkAt_eq hblk) rfl hb hn, vs, more, t, fr, ?_, cvL_is (R := RC.is β) (fun c d v h r => RC.cv_is hm hF hS fuel h r) hds h2⟩
          show β.w.heap[b]? = _
          rw [hm.wd]; exact h1
        · cases h
      · cases h
    case fn f caps =>
      obtain ⟨ds, hds, rfl⟩ := Option.map_eq_some_iff.1 h
      obtain ⟨vs, h1, e⟩ := r
      simp only [CV.is]
      exact ⟨vs, e, cvL_is (R := capIs β) (fun x d v h r => RC.cv_is hm hF hS fuel (c := .ptr x.1 x.2) h r) hds h1⟩
theorem freezeC_is (hm : MemRel S B w0 β mem w) {F : List Nat} (hF : ∀ n k, F.contains n = false → β n = some k → ∃ s, mem[n]? = some s ∧ s.live = true) (hS : ∀ n, S n = none) {c : RC} {v : Value} (h : c.is β v) : (freezeC F mem c).is (minusβ β F) v := by
  cases c <;> try exact h
  case ptr n off =>
    simp only [freezeC]
    split
    · split
      · rename_i cs' off' hcv
        have := RC.cv_is hm hF hS _ hcv h
        exact this
      · trivial
    · rename_i hn
      obtain ⟨b, h1, h2⟩ := h
      exact ⟨b, minusβ_at (by simpa using hn) h1, h2⟩
  case frz k L n => obtain ⟨b, off, c, h1, h2, h3⟩ := h; exact ⟨b, off, c, h1, h2, h3.minus F⟩
  case fpt k L n j => obtain ⟨b, off, h1, h2, h3⟩ := h; exact ⟨b, off, h1, h2, h3.minus F⟩
  case co cs off => exact CV.is.move (own_minus F) _ _ h
  case clo f caps => exact CV.is.move (own_minus F) _ _ h
  case sq n len =>
    simp only [freezeC]
    split
    · trivial
    · rename_i hn
      rcases h with ⟨b, c, h1, h2, h3, h4⟩ | h
      · exact .inl ⟨b, c, minusβ_at (by simpa using hn) h1, h2, h3, h4⟩
      · exact .inr h
  case sqs n lo hi =>
    simp only [freezeC]
    split
    · trivial
    · rename_i hn
      rcases h with ⟨hl, b, c, h1, h2, h3⟩ | h
      · exact .inl ⟨hl, b, c, minusβ_at (by simpa using hn) h1, h2, h3⟩
      · exact .inr h
  case sqp n j =>
    simp only [freezeC]
    split
    · trivial
    · rename_i hn
      obtain ⟨b, h1, h2⟩ := h
      exact ⟨b, minusβ_at (by simpa using hn) h1, h2⟩
  case fn f caps =>
    cases caps with
    | nil =>
      obtain ⟨vs, h1, h2⟩ := h
      rw [all2_nil_left h1] at h2
      exact ⟨[], trivial, h2⟩
    | cons x xs =>
      simp only [freezeC]
      split
      · rename_i hcv
        exact RC.cv_is hm hF hS _ hcv h
      · trivial
  case slc n off len cap =>
    simp only [freezeC]
    split
    · rename_i hn
      split <;> try trivial
      rename_i t cs hblk
      split <;> try trivial
      rename_i k hk
      split <;> try trivial
      rename_i xs hx
      split <;> try trivial
      rename_i hlen
      obtain ⟨b, c, hb, hcap, hle, hroom, e⟩ := h
      refine ⟨b, off, c, hle, e, ?_⟩
      obtain ⟨vs, more, fr, h1, h2, h3⟩ := hm.at hblk hb
      obtain ⟨o1, o2, o3⟩ := free_own hm hF hS (blkAt_eq hblk) rfl hb hn
      refine ⟨o1, o2, o3, ⟨vs ++ more⟩, t, fr, by show β.w.heap[b]? = _; rw [hm.wd]; exact h1, fun j hj => ?_⟩
      have hv := numsOf_is hx (all2_take len (all2_drop off h2))
      have e1 : ((vs.drop off).take len)[j]? = some (.int k (xs.getD j 0)) := by
        rw [hv]
        simp [List.getElem?_eq_getElem (show j < xs.length by omega)]
      rw [List.getElem?_take_of_lt hj, List.getElem?_drop] at e1
      have hlt : off + j < vs.length := by
        rcases Nat.lt_or_ge (off + j) vs.length with h' | h'
        · exact h'
        · rw [List.getElem?_eq_none h'] at e1; cases e1
      simp [List.getElem?_append_left hlt, e1]
    · rename_i hn
      obtain ⟨b, c, h1, h2⟩ := h
      exact ⟨b, c, minusβ_at (by simpa using hn) h1, h2⟩
theorem all2_mapL {α δ γ : Type} {R : α → γ → Prop} {R' : δ → γ → Prop} {f : α → δ} (h : ∀ a v, R a v → R' (f a) v) : ∀ {l : List α} {vs : List γ}, all2 R l vs → all2 R' (l.map f) vs := all2_mapR h
theorem freezeS_is (hm : MemRel S B w0 β mem w) {F : List Nat} (hF : ∀ n k, F.contains n = false → β n = some k → ∃ s, mem[n]? = some s ∧ s.live = true) (hS : ∀ n, S n = none) {c : SV} {v : Value} (h : c.is β v) : (freezeS F mem c).is (minusβ β F) v := by
  cases c with
  | one c => exact freezeC_is hm hF hS h
  | agg cs => obtain ⟨vs, e, r⟩ := h; exact ⟨vs, e, all2_mapL (fun _ _ r => freezeC_is hm hF hS r) r⟩
theorem freezeT_is (hm : MemRel S B w0 β mem w) {F : List Nat} (hF : ∀ n k, F.contains n = false → β n = some k → ∃ s, mem[n]? = some s ∧ s.live = true) (hS : ∀ n, S n = none) {c : TV} {v : Value} (h : c.is β v) : (freezeT F mem c).is (minusβ β F) v := by
  cases c with
  | sv c => exact freezeS_is hm hF hS h
  | tup cs => obtain ⟨vs, e, r⟩ := h; exact ⟨vs, e, all2_mapL (fun _ _ r => freezeS_is hm hF hS r) r⟩
theorem freezeSlots_get {F : List Nat} {mem0 : List Slot} : ∀ {l : List Slot} {i n : Nat} {s : Slot}, (freezeSlots F mem0 i l)[n]? = some s → ∃ s0, l[n]? = some s0 ∧
    (s = match s0 with
      | .blk t cs => if F.contains (i + n) then Slot.dead else .blk t (cs.map (freezeC F mem0))
      | .seq t k L => if F.contains (i + n) then Slot.dead else .seq t k L
      | .free => .free
      | .dead => .dead)
  | [], i, n, s, h => by simp [freezeSlots] at h
  | x :: l, i, 0, s, h => by
    refine ⟨x, by simp, ?_⟩
    cases x <;> simp only [freezeSlots, List.getElem?_cons_zero, Option.some.injEq] at h <;> rw [← h] <;> rfl
  | x :: l, i, n + 1, s, h => by
    have : (freezeSlots F mem0 (i + 1) l)[n]? = some s := by cases x <;> simpa [freezeSlots] using h
    obtain ⟨s0, h1, h2⟩ := freezeSlots_get this
    exact ⟨s0, by simpa using h1, by rw [h2, show i + 1 + n = i + (n + 1) by omega]⟩
theorem freezeSlots_get' {F : List Nat} {mem0 : List Slot} : ∀ {l : List Slot} {i n : Nat} {s0 : Slot}, l[n]? = some s0 → s0 ≠ .free → ∃ s, (freezeSlots F mem0 i l)[n]? = some s ∧ s ≠ .free
  | [], i, n, s0, h, _ => by simp at h
  | x :: l, i, 0, s0, h, hne => by
    simp at h; subst h
    cases x
    · exact absurd rfl hne
    · exact ⟨_, by simp [freezeSlots]; rfl, by simp⟩
    · refine ⟨_, by simp [freezeSlots]; rfl, ?_⟩
      split <;> simp
    · refine ⟨_, by simp [freezeSlots]; rfl, ?_⟩
      split <;> simp
  | x :: l, i, n + 1, s0, h, hne => by
    simp at h
    obtain ⟨s, h1, h2⟩ := freezeSlots_get' (F := F) (mem0 := mem0) (i := i + 1) h hne
    exact ⟨s, by cases x <;> simpa [freezeSlots] using h1, h2⟩
theorem freezeSlots_live {F : List Nat} {mem0 l : List Slot} {n : Nat} {s : Slot} (h : (freezeSlots F mem0 0 l)[n]? = some s) (hl : s.live = true) : ∃ s0, l[n]? = some s0 ∧ s0.live = true ∧ F.contains n = false ∧ (s = match s0 with
      | .blk t cs => .blk t (cs.map (freezeC F mem0))
      | s0 => s0) := by
  obtain ⟨s0, h1, h2⟩ := freezeSlots_get h
  rw [Nat.zero_add] at h2
  refine ⟨s0, h1, ?_⟩
  cases s0 with
  | free => subst h2; cases hl
  | dead => subst h2; cases hl
  | blk t cs =>
    dsimp only at h2
    split at h2
    · subst h2; cases hl
    · rename_i hn; exact ⟨rfl, by simpa using hn, h2⟩
  | seq t k L =>
    dsimp only at h2
    split at h2
    · subst h2; cases hl
    · rename_i hn; exact ⟨rfl, by simpa using hn, h2⟩
theorem freezeMem (hm : MemRel S B w0 β mem w) {F : List Nat} (hF : ∀ n k, F.contains n = false → β n = some k → ∃ s, mem[n]? = some s ∧ s.live = true) (hS : ∀ n, S n = none) : MemRel S B w0 (minusβ β F) (freezeSlots F mem 0 mem) w := by
  refine ⟨hm.wd, hm.aw, hm.far, fun n t cs h => ?_, fun n t k L h => ?_, fun a c sa sb k hla hlc l1 l2 h1 h2 => ?_, fun n k h => hm.rng n k (minusβ_some h).2, fun n k h => ?_, fun n k h => (by rw [hS n] at h; cases h), hm.kept, hm.sz⟩
  · obtain ⟨s0, h1, h2, hn, h3⟩ := freezeSlots_live h rfl
    cases s0 with
    | blk t' cs' =>
      cases h3
      obtain ⟨k, hk, vs, more, fr, q1, q2, q3⟩ := hm.blk n t cs' h1
      exact ⟨k, minusβ_at hn hk, vs, more, fr, q1, all2_mapL (fun _ _ r => freezeC_is hm hF hS r) q2, q3⟩
    | seq t' k' L' => cases h3
    | free => cases h2
    | dead => cases h2
  · obtain ⟨s0, h1, h2, hn, h3⟩ := freezeSlots_live h rfl
    cases s0 with
    | blk t' cs' => cases h3
    | seq t' k' L' =>
      cases h3
      obtain ⟨q1, q2⟩ := hm.seq n t k L h1
      refine ⟨fun b hb => q1 b (minusβ_some hb).2, fun hno => q2 ?_⟩
      have h' : (if F.contains n then none else β n) = none := hno
      rw [hn] at h'
      exact h'
    | free => cases h2
    | dead => cases h2
  · obtain ⟨s0, q1, q2, _, _⟩ := freezeSlots_live hla l1
    obtain ⟨s1, r1, r2, _, _⟩ := freezeSlots_live hlc l2
    exact hm.inj a c _ _ k q1 r1 q2 r2 (minusβ_some h1).2 (minusβ_some h2).2
  · obtain ⟨s0, h1, h2⟩ := hm.used n k (minusβ_some h).2
    exact freezeSlots_get' h1 h2
theorem freezeSt_sound {st : St} {a : Act} (h : Rel S B w0 β st a w) {F : List Nat} (hS : ∀ n, S n = none) : Rel S B w0 (minusβ β (withDeads F st.mem)) (freezeSt F st) a w :=
  ⟨fun i c hc => by
    simp only [freezeSt, Tm.get_map] at hc
    obtain ⟨u, h1, rfl⟩ := Option.map_eq_some_iff.1 hc
    obtain ⟨v, h2, h3⟩ := h.tm i u h1
    exact ⟨v, h2, freezeT_is h.mm (fun _ _ => withDeads_live h.mm) hS h3⟩, h.df, freezeMem h.mm (fun _ _ => withDeads_live h.mm) hS⟩
end

/-- Temporaries that no one asks for any more: those of the rows from m on (eight a row). -/
def forget (m : Nat) (t : Tm) : Tm := ⟨t.rows.take m ++ (t.rows.drop m).map (List.map fun _ => .sv (.one .any))⟩
theorem forget_get {m : Nat} {t : Tm} {i : Nat} {c : TV} (h : (forget m t).get i = some c) : ∃ d, t.get i = some d ∧ (c = d ∨ c = .sv (.one .any)) := by
  rw [Tm.get_eq] at h ⊢
  obtain ⟨r, h1, h2⟩ := Option.bind_eq_some_iff.1 h
  simp only [forget] at h1
  rcases Nat.lt_or_ge (i / 8) m with hm | hm
  · have e : (t.rows.take m ++ (t.rows.drop m).map (List.map fun _ => TV.sv (.one .any)))[i / 8]? = t.rows[i / 8]? ∨ t.rows.length ≤ i / 8 := by
      rcases Nat.lt_or_ge (i / 8) t.rows.length with hl | hl
      · left
        rw [List.getElem?_append_left (by simp; omega), List.getElem?_take_of_lt hm]
      · exact Or.inr hl
    rcases e with e | e
    · rw [e] at h1
      exact ⟨c, by rw [h1]; exact h2, Or.inl rfl⟩
    · have : ((t.rows.take m ++ (t.rows.drop m).map (List.map fun _ => TV.sv (.one .any)))).length ≤ i / 8 := by simp; omega
      rw [List.getElem?_eq_none this] at h1
      cases h1
  · rcases Nat.lt_or_ge (i / 8) t.rows.length with hl | hl
    · rw [List.getElem?_append_right (by simp; omega), List.length_take, Nat.min_eq_left (by omega), List.getElem?_map, List.getElem?_drop, show m + (i / 8 - m) = i / 8 by omega] at h1
      obtain ⟨r0, h3, rfl⟩ := Option.map_eq_some_iff.1 h1
      rw [List.getElem?_map] at h2
      obtain ⟨d, h4, rfl⟩ := Option.map_eq_some_iff.1 h2
      exact ⟨d, by rw [h3]; exact h4, Or.inr rfl⟩
    · have : ((t.rows.take m ++ (t.rows.drop m).map (List.map fun _ => TV.sv (.one .any)))).length ≤ i / 8 := by simp; omega
      rw [List.getElem?_eq_none this] at h1
      cases h1
theorem forget_sound {S : Nat → Option Nat} {B : Base} {w0 : World} {β : Env} {st : St} {a : Act} {w : World} (h : Rel S B w0 β st a w) (m : Nat) : Rel S B w0 β ⟨forget m st.tmps, st.mem⟩ a w :=
  ⟨fun i c hc => by
    obtain ⟨d, h1, h2⟩ := forget_get hc
    obtain ⟨v, h3, h4⟩ := h.tm i d h1
    rcases h2 with rfl | rfl
    · exact ⟨v, h3, h4⟩
    · exact ⟨v, h3, trivial⟩, h.df, h.mm⟩
/-- Ahead of these regions whatever slice a temporary holds is frozen; 4000000 + 1000 id + m: ahead of region id the temporaries from row m on are forgotten. -/
def froze (fz : List Nat) (id : Nat) (st : St) : St := if fz.contains id then freezeSt (st.tmps.toL.flatMap slcOf) st else match fz.find? fun c => c / 1000 == 4000 + id with
  | some c => ⟨forget (c % 1000) st.tmps, st.mem⟩
  | none => st
/-- Ahead of operation k of region id: 1000000 + 1000 id + k. -/
def frozeAt (fz : List Nat) (id : Nat) (k : Nat) (st : St) : St := match fz with
  | [] => st
  | _ => froze fz (1000000 + 1000 * id + k) st
/-- The two ways of this test do not meet again: 500000 and the first way's first region. -/
def apartC (fz : List Nat) (key : Nat) : Bool := match fz with
  | [] => false
  | _ => fz.contains (500000 + key)

/-! ### Code -/
def loopT (f : St → Tree) : Nat → St → Tree
  | 0, _ => .stuck
  | n + 1, st => (f st).bind fun e st' => match e with
    | .normal => loopT f n st'
    | e => .leaf e st'

def codeKey : Code → Nat
  | .seq x _ => codeKey x
  | .region id _ _ => id
  | .block _ x => codeKey x
  | .loop x => codeKey x
  | _ => 0

def findLp (k : Nat) : List (Nat × (St → Tree)) → Option (St → Tree)
  | [] => none
  | (j, f) :: r => if j = k then some f else findLp k r

def exec (P : Program) (cts : List Ct) (lps : List (Nat × (St → Tree))) (fz : List Nat) (fuel : Nat) : Code → St → Tree
  | .skip => fun st => .leaf .normal st
  | .region id ops draw => fun st => regionT P cts ops (frozeAt fz id) draw (froze fz id st)
  | .seq x y =>
    let fx := exec P cts lps fz fuel x
    let fy := exec P cts lps fz fuel y
    fun st => (fx st).bind fun e st' => match e with
      | .normal => fy st'
      | e => .leaf e st'
  | .cond c x y =>
    let fx := exec P cts lps fz fuel x
    let fy := exec P cts lps fz fuel y
    fun st => match (opv st.tmps c).bind TV.bool? with
      | some (true, true) => fx st
      | some (true, false) => fy st
      | some (false, b) => match apartC fz (codeKey x) with
        | true => .br b (fx st) (fy st)
        | false => joinT st.mem.length b (fx st) (fy st)
      | none => .stuck
  | .block id x =>
    let fx := exec P cts lps fz fuel x
    fun st => (fx st).bind fun e st' => match e with
      | .exit id' => if id' = id then .leaf .normal st' else .leaf (.exit id') st'
      | e => .leaf e st'
  | .loop x =>
    match findLp (codeKey x) lps with
    | some f => f
    | none => let fx := exec P cts lps fz fuel x; loopT fx fuel
  | .exit id => fun st => .leaf (.exit id) st
  | .ret => fun st => .leaf .ret st
  | _ => fun _ => .stuck

def loopsOf : Code → List Code
  | .seq x y => loopsOf x ++ loopsOf y
  | .cond _ x y => loopsOf x ++ loopsOf y
  | .block _ x => loopsOf x
  | .loop x => x :: loopsOf x
  | _ => []

/-- From every world that fits, the code goes one of the tree's ways. -/
def CodeOk (P : Program) (S : Nat → Option Nat) (B : Base) (w0 : World) (c : Code) (t : Tree) (st : St) : Prop :=
  ∀ (K : Ex → St → Prop) (Q : Exit → Act → World → Prop), t.wp K → (∀ e st', K e st' → ∀ β a w, Rel S B w0 β st' a w → Q e.to a w) → ∀ β a w, Rel S B w0 β st a w → c.wp P Q a w

def LpOkS (P : Program) (Sok : (Nat → Option Nat) → Prop) (body : Code) (f : St → Tree) : Prop := ∀ S B w0 st, Sok S → CodeOk P S B w0 (.loop body) (f st) st
/-- No block came in. -/
def NoS (S : Nat → Option Nat) : Prop := ∀ n, S n = none
def LpOk (P : Program) (body : Code) (f : St → Tree) : Prop := LpOkS P NoS body f

theorem loopT_rounds {P : Program} {S : Nat → Option Nat} {B : Base} {w0 : World} {body : Code} {f : St → Tree} (hf : ∀ st, CodeOk P S B w0 body (f st) st) {K : Ex → St → Prop} {Q : Exit → Act → World → Prop}
    (hK : ∀ e st', K e st' → ∀ β a w, Rel S B w0 β st' a w → Q e.to a w) : ∀ (n : Nat) (st : St), (loopT f n st).wp K → ∀ β a w, Rel S B w0 β st a w → Code.rounds P body Q n a w
  | 0, _, h, _, _, _, _ => h.elim
  | n + 1, st, h, β, a, w, r => by
    rw [rounds_succ]
    refine hf st _ _ (Tree.wp_bind.1 h) ?_ β a w r
    intro e st' he β' a' w' r'
    cases e with
    | normal => exact loopT_rounds hf hK n st' he β' a' w' r'
    | exit id => exact hK _ _ he β' a' w' r'
    | ret => exact hK _ _ he β' a' w' r'
theorem loopT_sound {P : Program} {S : Nat → Option Nat} {B : Base} {w0 : World} {body : Code} {f : St → Tree} (hf : ∀ st, CodeOk P S B w0 body (f st) st) (n : Nat) (st : St) : CodeOk P S B w0 (.loop body) (loopT f n st) st :=
  fun _ _ h hK β a w r => wp_loop_rounds n (loopT_rounds hf hK n st h β a w r)

theorem findLp_key {k : Nat} {f : St → Tree} : ∀ {l : List (Nat × (St → Tree))}, findLp k l = some f → (k, f) ∈ l
  | [], h => by cases h
  | (j, g) :: r, h => by
    unfold findLp at h
    split at h
    · rename_i e; cases h; subst e; simp
    · simp [findLp_key h]

theorem froze_sound {S : Nat → Option Nat} {B : Base} {w0 : World} {fz : List Nat} (hS : fz = [] ∨ ∀ n, S n = none) (id : Nat) (st : St) (β : Env) (a : Act) (w : World) (r : Rel S B w0 β st a w) : ∃ β', Rel S B w0 β' (froze fz id st) a w := by
  unfold froze
  split
  · rename_i hid
    rcases hS with rfl | hS
    · simp at hid
    · exact ⟨_, freezeSt_sound r hS⟩
  · split
    · exact ⟨β, forget_sound r _⟩
    · exact ⟨β, r⟩
theorem frozeAt_sound {S : Nat → Option Nat} {B : Base} {w0 : World} {fz : List Nat} (hS : fz = [] ∨ ∀ n, S n = none) (id k : Nat) (st : St) (β : Env) (a : Act) (w : World) (r : Rel S B w0 β st a w) : ∃ β', Rel S B w0 β' (frozeAt fz id k st) a w := by
  unfold frozeAt
  split
  · exact ⟨β, r⟩
  · exact froze_sound hS _ st β a w r

theorem exec_sound {P : Program} {cts : List Ct} {lps : List (Nat × (St → Tree))} {fz : List Nat} {fuel : Nat} (hmix : P.follows .mixedOrders = true) (hcts : ∀ c ∈ cts, CtOk P c) {S : Nat → Option Nat} {B : Base} {w0 : World} {Sok : (Nat → Option Nat) → Prop} (hS : fz = [] ∨ ∀ n, S n = none) (hSok : Sok S) :
    ∀ (c : Code), (∀ body ∈ loopsOf c, ∀ f, findLp (codeKey body) lps = some f → LpOkS P Sok body f) → ∀ st, CodeOk P S B w0 c (exec P cts lps fz fuel c st) st
  | .skip, _, st => fun _ _ h hK β a w r => wp_skip (hK .normal st h β a w r)
  | .region id ops draw, _, st => fun K Q h hK β a w r => by
    simp only [exec] at h
    obtain ⟨β', r'⟩ := froze_sound (fz := fz) hS id st β a w r
    exact regionT_sound hmix hcts hK (fun k st β a w r => frozeAt_sound hS id k st β a w r) h r'
  | .seq x y, hl, st => fun K Q h hK β a w r => by
    have hx := exec_sound hmix hcts hS hSok (fuel := fuel) (S := S) (B := B) (w0 := w0) x (fun b hb => hl b (by simp [loopsOf, hb])) st
    refine wp_seq (hx _ _ (Tree.wp_bind.1 h) ?_ β a w r)
    intro e st' he β' a' w' r'
    cases e with
    | normal => exact exec_sound hmix hcts hS hSok y (fun b hb => hl b (by simp [loopsOf, hb])) st' K Q he hK β' a' w' r'
    | exit id => exact hK _ _ he β' a' w' r'
    | ret => exact hK _ _ he β' a' w' r'
  | .cond c x y, hl, st => fun K Q h hK β a w r => by
    have hx := exec_sound hmix hcts hS hSok (fuel := fuel) (S := S) (B := B) (w0 := w0) x (fun b hb => hl b (by simp [loopsOf, hb])) st
    have hy := exec_sound hmix hcts hS hSok (fuel := fuel) (S := S) (B := B) (w0 := w0) y (fun b hb => hl b (by simp [loopsOf, hb])) st
    simp only [exec] at h
    split at h
    · rename_i hc
      obtain ⟨tv, h1, h2⟩ := Option.bind_eq_some_iff.1 hc
      exact wp_cond (TV.bool_is h2 (opv_is r.tm _ _ h1)) (hx K Q h hK β a w r)
    · rename_i hc
      obtain ⟨tv, h1, h2⟩ := Option.bind_eq_some_iff.1 hc
      exact wp_cond (TV.bool_is h2 (opv_is r.tm _ _ h1)) (hy K Q h hK β a w r)
    · rename_i b hc
      obtain ⟨tv, h1, h2⟩ := Option.bind_eq_some_iff.1 hc
      have hbr : ∀ {t e : Tree}, exec P cts lps fz fuel x st = t → exec P cts lps fz fuel y st = e → (Tree.br b t e).wp K → (Code.cond c x y).wp P Q a w := by
        rintro t e rfl rfl hw
        refine wp_cond (TV.bool_is h2 (opv_is r.tm _ _ h1)) ?_
        cases b with
        | true => exact hx K Q (hw.1 rfl) hK β a w r
        | false => exact hy K Q (hw.2 rfl) hK β a w r
      split at h
      · exact hbr rfl rfl h
      unfold joinT at h
      split at h
      · rename_i l sx l' sy h3 h4
        split at h
        · rename_i z hz
          obtain ⟨n1, h'⟩ := needs_wp h
          obtain ⟨n2, h''⟩ := needs_wp h'
          have hSm : ∀ n k, S n = some k → n < st.mem.length := fun n k hk => by
            obtain ⟨s, hs, _⟩ := r.mm.used n k (r.mm.came n k hk)
            rcases Nat.lt_or_ge n st.mem.length with h' | h'
            · exact h'
            · rw [List.getElem?_eq_none h'] at hs; cases hs
          refine wp_cond (TV.bool_is h2 (opv_is r.tm _ _ h1)) ?_
          cases b with
          | true =>
            refine hx (fun e st' => e = .normal ∧ st' = sx) Q (simpleT_wp h3 (fun p hp => n1 _ (List.mem_map.2 ⟨p, hp, rfl⟩) rfl) ⟨rfl, rfl⟩) ?_ β a w r
            rintro e st' ⟨rfl, rfl⟩ β' a' w' r'
            exact hK .normal z h'' _ a' w' (mergeSt_sound hSm hz r')
          | false =>
            refine hy (fun e st' => e = .normal ∧ st' = sy) Q (simpleT_wp h4 (fun p hp => n2 _ (List.mem_map.2 ⟨p, hp, rfl⟩) rfl) ⟨rfl, rfl⟩) ?_ β a w r
            rintro e st' ⟨rfl, rfl⟩ β' a' w' r'
            exact hK .normal z h'' _ a' w' (mergeSt_sound hSm hz r')
        · exact hbr rfl rfl h
      · exact hbr rfl rfl h
    · exact h.elim
  | .block id x, hl, st => fun K Q h hK β a w r => by
    have hx := exec_sound hmix hcts hS hSok (fuel := fuel) (S := S) (B := B) (w0 := w0) x (fun b hb => hl b (by simpa [loopsOf] using hb)) st
    refine wp_block (hx _ _ (Tree.wp_bind.1 h) ?_ β a w r)
    intro e st' he β' a' w' r'
    cases e with
    | normal => exact hK _ _ he β' a' w' r'
    | exit id' =>
      dsimp only at he
      show Exit.inBlock id Q (.exit id') a' w'
      simp only [Exit.inBlock]
      split at he
      · rename_i e'; rw [if_pos e']; exact hK _ _ he β' a' w' r'
      · rename_i e'; rw [if_neg e']; exact hK _ _ he β' a' w' r'
    | ret => exact hK _ _ he β' a' w' r'
  | .loop x, hl, st => by
    simp only [exec]
    cases hf : findLp (codeKey x) lps with
    | some f => exact hl x (by simp [loopsOf]) f hf S B w0 st hSok
    | none => exact loopT_sound (fun st' => exec_sound hmix hcts hS hSok x (fun b hb => hl b (by simp [loopsOf, hb])) st') fuel st
  | .exit id, _, st => fun _ _ h hK β a w r => wp_exit (hK _ _ h β a w r)
  | .ret, _, st => fun _ _ h hK β a w r => wp_ret (hK _ _ h β a w r)
  | .rangeFunc _ _ _ _, _, _ => fun _ _ h => h.elim
  | .scope _, _, _ => fun _ _ h => h.elim
  | .label _, _, _ => fun _ _ h => h.elim
  | .goto _, _, _ => fun _ _ h => h.elim
  | .refuse _, _, _ => fun _ _ h => h.elim

/-! ### A call -/
def resV (P : Program) (st : St) : ResultVar → Option TV
  | .tmp t => st.tmps.get t
  | .cell a t => match st.tmps.get a with
    | some p => loadC P st.mem t p
    | none => none
def resL (P : Program) (st : St) : List ResultVar → Option (List TV)
  | [] => some []
  | r :: rs => match resV P st r, resL P st rs with
    | some v, some l => some (v :: l)
    | _, _ => none
def toSVs : List TV → Option (List SV)
  | [] => some []
  | .sv s :: r => match toSVs r with
    | some l => some (s :: l)
    | none => none
  | .tup _ :: _ => none
def outV (P : Program) (rs : List ResultVar) (st : St) : Option TV :=
  match resL P st rs with
  | some [v] => some v
  | some l => match toSVs l with
    | some ss => some (.tup ss)
    | none => none
  | none => none

theorem tmps_get {β : Env} {tmps : Tm} {a : Array Value} (h : TmIs β tmps a.toList) {t : Nat} {tv : TV} (e : tmps.get t = some tv) : tv.is β (a.getD t undef) := by
  obtain ⟨b, hb, r⟩ := h t tv e
  have : a.getD t undef = b := by
    rw [Array.getD_eq_getD_getElem?, ← Array.getElem?_toList, hb]; rfl
  rw [this]; exact r

def resSem (tmps : Array Value) : ResultVar → Sem Value
  | .tmp t => pure (tmps.getD t undef)
  | .cell b t => do loadVar t (← asAddr (tmps.getD b undef))

theorem resV_sound {P : Program} {S : Nat → Option Nat} {B : Base} {w0 : World} {β : Env} {st : St} {a : Act} {w : World} (r : Rel S B w0 β st a w) {x : ResultVar} {tv : TV} (h : resV P st x = some tv) :
    ∃ v, (resSem a.tmps x).run P w = .ok v w ∧ tv.is β v := by
  cases x with
  | tmp t => exact ⟨_, rfl, tmps_get r.tm h⟩
  | cell b t =>
    simp only [resV] at h
    split at h
    · rename_i p hp
      have hp' := tmps_get r.tm hp
      obtain ⟨v, hv, rv⟩ := loadC_sound r.mm h hp'
      refine ⟨v, ?_, rv⟩
      unfold loadC at h
      split at h
      · obtain ⟨k, hk, ev⟩ := hp'
        rw [ev] at hv
        simp only [resSem, Sem.run_bind, ev, asAddr, Sem.run_pure, Result.andThen_ok]
        simpa [Instr.loadAt, Instr.sureAddr] using hv
      · obtain ⟨b', off, ev, _, _⟩ := hp'
        rw [ev] at hv
        simp only [resSem, Sem.run_bind, ev, asAddr, Sem.run_pure, Result.andThen_ok]
        simpa [Instr.loadAt, Instr.sureAddr] using hv
      · simp only [TV.is, SV.is, RC.is, CV.is] at hp'
        obtain ⟨b', ev, _⟩ := hp'
        rw [ev] at hv
        simp only [resSem, Sem.run_bind, ev, asAddr, Sem.run_pure, Result.andThen_ok]
        simpa [Instr.loadAt, Instr.sureAddr] using hv
      · cases h
    · cases h

theorem resL_sound {P : Program} {S : Nat → Option Nat} {B : Base} {w0 : World} {β : Env} {st : St} {a : Act} {w : World} (r : Rel S B w0 β st a w) : ∀ {rs : List ResultVar} {l : List TV}, resL P st rs = some l →
    ∃ vs, (rs.mapM (m := Sem) (resSem a.tmps)).run P w = .ok vs w ∧ all2 (TV.is β) l vs
  | [], l, h => by simp [resL] at h; subst h; exact ⟨[], rfl, trivial⟩
  | x :: rs, l, h => by
    unfold resL at h
    split at h
    · rename_i tv l' h1 h2
      cases h
      obtain ⟨v, hv, rv⟩ := resV_sound r h1
      obtain ⟨vs, hvs, rvs⟩ := resL_sound r h2
      refine ⟨v :: vs, ?_, rv, rvs⟩
      rw [List.mapM_cons]
      simp only [Sem.run_bind, hv, Result.andThen_ok, hvs, Sem.run_pure]
    · cases h

theorem toSVs_is {β : Env} : ∀ {l : List TV} {ss : List SV} {vs : List Value}, toSVs l = some ss → all2 (TV.is β) l vs → all2 (SV.is β) ss vs
  | [], ss, vs, h, r => by simp [toSVs] at h; subst h; rw [all2_nil_left r]; trivial
  | .sv s :: l, ss, vs, h, r => by
    obtain ⟨v, vs', rfl, r1, r2⟩ := all2_cons_left r
    unfold toSVs at h
    split at h
    · rename_i l' hl; cases h; exact ⟨r1, toSVs_is hl r2⟩
    · cases h
  | .tup _ :: _, _, _, h, _ => by cases h

theorem outV_sound {P : Program} {S : Nat → Option Nat} {B : Base} {w0 : World} {β : Env} {st : St} {a : Act} {w : World} (r : Rel S B w0 β st a w) {fn : Func} {tv : TV} (h : outV P fn.results.toList st = some tv) :
    ∃ v, (results fn a.tmps).run P w = .ok v w ∧ tv.is β v := by
  have key : ∀ l, resL P st fn.results.toList = some l → ∃ vs : List Value, (results fn a.tmps).run P w = .ok (if h : (vs.toArray).size = 1 then (vs.toArray)[0] else .tuple vs.toArray) w ∧ all2 (TV.is β) l vs := by
    intro l hl
    obtain ⟨vs, hvs, rvs⟩ := resL_sound (P := P) r hl
    refine ⟨vs, ?_, rvs⟩
    show ((fn.results.mapM (resSem a.tmps)) >>= fun vs => pure (if h : vs.size = 1 then vs[0] else .tuple vs) : Sem Value).run P w = _
    rw [Array.mapM_eq_mapM_toList]
    simp only [Sem.run_bind, Sem.run_map, hvs, Result.andThen_ok, Sem.run_pure]
  unfold outV at h
  split at h
  · rename_i v hl
    cases h
    obtain ⟨vs, h1, h2⟩ := key _ hl
    obtain ⟨u, rest, rfl, r1, r2⟩ := all2_cons_left h2
    obtain rfl := all2_nil_left r2
    exact ⟨u, by simpa using h1, r1⟩
  · rename_i l hne hl
    split at h
    · rename_i ss hs
      cases h
      obtain ⟨vs, h1, h2⟩ := key _ hl
      have hlen := all2_length h2
      have hn : ¬ vs.length = 1 := by
        intro e
        rw [e] at hlen
        match l, hlen with
        | [v], _ => exact hne v rfl
      rw [dif_neg (by simpa using hn)] at h1
      exact ⟨_, h1, vs, rfl, toSVs_is hs h2⟩
    · cases h
  · cases h

/-- What a call comes to. -/
inductive OT where
  | leaf (tv : TV) (mem : List Slot)
  | br (b : Bool) (t e : OT)
  | need (p : Prop) (t : OT)
  | stuck
def OT.wp : OT → (TV → List Slot → Prop) → Prop
  | .leaf tv mem, K => K tv mem
  | .br b t e, K => (b = true → t.wp K) ∧ (b = false → e.wp K)
  | .need p t, K => p ∧ t.wp K
  | .stuck, _ => False
def outT (P : Program) (rs : List ResultVar) : Tree → OT
  | .leaf .normal st | .leaf .ret st => match outV P rs st with
    | some tv => .leaf tv st.mem
    | none => .stuck
  | .leaf (.exit _) _ => .stuck
  | .br b t e => .br b (outT P rs t) (outT P rs e)
  | .need p t => .need p (outT P rs t)
  | .stuck => .stuck
theorem outT_wp {P : Program} {rs : List ResultVar} {K : TV → List Slot → Prop} : ∀ {t : Tree}, (outT P rs t).wp K → t.wp fun e st => (e = .normal ∨ e = .ret) ∧ ∃ tv, outV P rs st = some tv ∧ K tv st.mem
  | .leaf .normal st, h => by
    unfold outT at h
    split at h
    · rename_i tv ht; exact ⟨.inl rfl, tv, ht, h⟩
    · exact h.elim
  | .leaf .ret st, h => by
    unfold outT at h
    split at h
    · rename_i tv ht; exact ⟨.inr rfl, tv, ht, h⟩
    · exact h.elim
  | .leaf (.exit _) _, h => h.elim
  | .br _ _ _, h => ⟨fun hb => outT_wp (h.1 hb), fun hb => outT_wp (h.2 hb)⟩
  | .need _ _, h => ⟨h.1, outT_wp h.2⟩
  | .stuck, h => h.elim

def runF (P : Program) (cts : List Ct) (lps : List (Nat × (St → Tree))) (fz : List Nat) (fuel : Nat) (fn : Func) (c : Code) (args : List SV) (mem : List Slot) : OT :=
  outT P fn.results.toList (exec P cts lps fz fuel c ⟨Tm.ofL (args.map .sv ++ List.replicate (fn.ntmps - args.length) (.tup [])), mem⟩)

theorem args_is {β : Env} : ∀ {args : List SV} {vs : List Value}, all2 (SV.is β) args vs → all2 (TV.is β) (args.map .sv) vs
  | [], [], _ => trivial
  | _ :: _, _ :: _, h => ⟨h.1, args_is h.2⟩
  | [], _ :: _, h => h.elim
  | _ :: _, [], h => h.elim

theorem calls_of_runG {P : Program} {cts : List Ct} {lps : List (Nat × (St → Tree))} {fz : List Nat} {fuel : Nat} (hmix : P.follows .mixedOrders = true) (hcts : ∀ c ∈ cts, CtOk P c) {f : FuncId} {fn : Func} {c : Code} (hf : P.funcs[f]? = some fn) (hb : fn.body = some c)
    {Sok : (Nat → Option Nat) → Prop} (hlp : ∀ body ∈ loopsOf c, ∀ g, findLp (codeKey body) lps = some g → LpOkS P Sok body g) {args : List SV} {mem : List Slot} {K : TV → List Slot → Prop} (h : (runF P cts lps fz fuel fn c args mem).wp K)
    {S : Nat → Option Nat} {B : Base} {w0 : World} (hS : fz = [] ∨ ∀ n, S n = none) (hSok : Sok S) {β : Env} {w : World} {vs : List Value} (ha : all2 (SV.is β) args vs) (hm : MemRel S B w0 β mem w) :
    Calls P f ⟨vs⟩ w fun e w' => ∃ v, e = .returned v ∧ ∃ tv mem' β', K tv mem' ∧ tv.is β' v ∧ MemRel S B w0 β' mem' w' := by
  refine calls_of_wp hf hb ?_
  have hwp := outT_wp h
  refine exec_sound hmix hcts hS hSok (S := S) (B := B) (w0 := w0) c hlp _ _ _ hwp ?_ β _ w ⟨?_, rfl, hm⟩
  · rintro e st' ⟨he, tv, htv, hk⟩ β' a' w' r'
    obtain ⟨v, hv, rv⟩ := outV_sound r' htv
    have : bodyPost P fn (fun e w' => ∃ v, e = .returned v ∧ ∃ tv mem' β', K tv mem' ∧ tv.is β' v ∧ MemRel S B w0 β' mem' w') .ret a' w' := ⟨r'.df, v, hv, v, rfl, tv, st'.mem, β', hk, rv, r'.mm⟩
    rcases he with rfl | rfl <;> exact this
  · have hl := all2_length ha
    simp only [Array.toList_append, Array.toList_replicate]
    refine TmIs.of (all2_append (args_is ha) ?_)
    have : (⟨vs⟩ : Array Value).size = args.length := by simp [hl]
    rw [this]
    exact all2_replicate ⟨[], rfl, trivial⟩ _
theorem calls_of_run {P : Program} {cts : List Ct} {lps : List (Nat × (St → Tree))} {fz : List Nat} {fuel : Nat} (hmix : P.follows .mixedOrders = true) (hcts : ∀ c ∈ cts, CtOk P c) {f : FuncId} {fn : Func} {c : Code} (hf : P.funcs[f]? = some fn) (hb : fn.body = some c)
    (hlp : ∀ body ∈ loopsOf c, ∀ g, findLp (codeKey body) lps = some g → LpOk P body g) {args : List SV} {mem : List Slot} {K : TV → List Slot → Prop} (h : (runF P cts lps fz fuel fn c args mem).wp K)
    {S : Nat → Option Nat} {B : Base} {w0 : World} (hS : (fz = [] ∧ lps = []) ∨ ∀ n, S n = none) {β : Env} {w : World} {vs : List Value} (ha : all2 (SV.is β) args vs) (hm : MemRel S B w0 β mem w) :
    Calls P f ⟨vs⟩ w fun e w' => ∃ v, e = .returned v ∧ ∃ tv mem' β', K tv mem' ∧ tv.is β' v ∧ MemRel S B w0 β' mem' w' := by
  rcases hS with ⟨rfl, rfl⟩ | hS
  · exact calls_of_runG (Sok := fun _ => True) hmix hcts hf hb (fun _ _ g hg => by cases hg) h (.inl rfl) trivial ha hm
  · exact calls_of_runG (Sok := NoS) hmix hcts hf hb hlp h (.inr hS) hS ha hm

end Go.Proofs.Ytihmhnfjdkkbgaa.RX
