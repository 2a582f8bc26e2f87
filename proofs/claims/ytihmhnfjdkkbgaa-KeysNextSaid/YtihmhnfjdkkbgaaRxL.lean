/- RX, part L: contracts of functions that only compute. -/
import Derived.Test.YtihmhnfjdkkbgaaRxK
import Derived.IntWalk
noncomputable section
namespace Go.Proofs.Ytihmhnfjdkkbgaa.RX
set_option linter.unusedSimpArgs false
open Go Go.RowKit

/-! ### Values that lead to no memory -/
def RC.val? : RC → Option Value
  | .lit k n => some (.int k n)
  | .int k x => some (.int k x)
  | .bit k x _ => some (.int k x)
  | .blit b => some (.bool b)
  | .bool b => some (.bool b)
  | .str s => some (.string s)
  | .strn s _ _ => some (.string s)
  | .val v => some v
  | _ => none
def valsC : List RC → Option (List Value)
  | [] => some []
  | c :: r => match c.val?, valsC r with
    | some v, some l => some (v :: l)
    | _, _ => none
def SV.val? : SV → Option Value
  | .one c => c.val?
  | .agg cs => match valsC cs with
    | some l => some (.agg ⟨l⟩)
    | none => none
def valsS : List SV → Option (List Value)
  | [] => some []
  | c :: r => match c.val?, valsS r with
    | some v, some l => some (v :: l)
    | _, _ => none
def TV.val? : TV → Option Value
  | .sv s => s.val?
  | .tup ss => match valsS ss with
    | some l => some (.tuple ⟨l⟩)
    | none => none
theorem RC.val_is {c : RC} {v : Value} (h : c.val? = some v) (β : Env) (u : Value) : c.is β u ↔ u = v := by
  cases c <;> simp [RC.val?] at h <;> subst h <;> exact Iff.rfl
theorem valsC_is (β : Env) : ∀ {cs : List RC} {l : List Value}, valsC cs = some l → ∀ us, all2 (RC.is β) cs us ↔ us = l
  | [], l, h, us => by
    simp [valsC] at h; subst h
    exact ⟨all2_nil_left, fun e => by subst e; trivial⟩
  | c :: r, l, h, us => by
    unfold valsC at h
    split at h
    · rename_i v l' h1 h2
      cases h
      constructor
      · intro r'
        obtain ⟨u, us', rfl, r1, r2⟩ := all2_cons_left r'
        rw [(RC.val_is h1 β u).1 r1, (valsC_is β h2 us').1 r2]
      · intro e; subst e
        exact ⟨(RC.val_is h1 β v).2 rfl, (valsC_is β h2 l').2 rfl⟩
    · cases h
theorem SV.val_is {c : SV} {v : Value} (h : c.val? = some v) (β : Env) (u : Value) : c.is β u ↔ u = v := by
  cases c with
  | one c => exact RC.val_is h β u
  | agg cs =>
    simp only [SV.val?] at h
    split at h
    · rename_i l hl
      cases h
      constructor
      · rintro ⟨vs, rfl, r⟩; rw [(valsC_is β hl vs).1 r]
      · rintro rfl; exact ⟨l, rfl, (valsC_is β hl l).2 rfl⟩
    · cases h
theorem valsS_is (β : Env) : ∀ {cs : List SV} {l : List Value}, valsS cs = some l → ∀ us, all2 (SV.is β) cs us ↔ us = l
  | [], l, h, us => by
    simp [valsS] at h; subst h
    exact ⟨all2_nil_left, fun e => by subst e; trivial⟩
  | c :: r, l, h, us => by
    unfold valsS at h
    split at h
    · rename_i v l' h1 h2
      cases h
      constructor
      · intro r'
        obtain ⟨u, us', rfl, r1, r2⟩ := all2_cons_left r'
        rw [(SV.val_is h1 β u).1 r1, (valsS_is β h2 us').1 r2]
      · intro e; subst e
        exact ⟨(SV.val_is h1 β v).2 rfl, (valsS_is β h2 l').2 rfl⟩
    · cases h
theorem TV.val_is {c : TV} {v : Value} (h : c.val? = some v) (β : Env) (u : Value) : c.is β u ↔ u = v := by
  cases c with
  | sv s => exact SV.val_is h β u
  | tup ss =>
    simp only [TV.val?] at h
    split at h
    · rename_i l hl
      cases h
      constructor
      · rintro ⟨vs, rfl, r⟩; rw [(valsS_is β hl vs).1 r]
      · rintro rfl; exact ⟨l, rfl, (valsS_is β hl l).2 rfl⟩
    · cases h

/-! ### Values as they may be taken for: a known number for a number, and so on -/
def RC.norm : RC → RC
  | .lit k n => .int k n
  | .bit k x _ => .int k x
  | .blit b => .bool b
  | .strn s _ _ => .str s
  | c => c
def SV.norm : SV → SV
  | .one c => .one c.norm
  | .agg cs => .agg (cs.map RC.norm)
def TV.norm : TV → TV
  | .sv s => .sv s.norm
  | .tup ss => .tup (ss.map SV.norm)
theorem RC.norm_is {c : RC} {β : Env} {v : Value} : c.norm.is β v ↔ c.is β v := by cases c <;> exact Iff.rfl
theorem all2_norm {α δ γ : Type} {R : α → γ → Prop} {R' : δ → γ → Prop} {f : α → δ} (h : ∀ a v, R' (f a) v ↔ R a v) : ∀ {l : List α} {vs : List γ}, all2 R' (l.map f) vs ↔ all2 R l vs
  | [], [] => Iff.rfl
  | _ :: _, _ :: _ => by simp only [List.map_cons, all2, h, all2_norm h]
  | [], _ :: _ => Iff.rfl
  | _ :: _, [] => Iff.rfl
theorem SV.norm_is {c : SV} {β : Env} {v : Value} : c.norm.is β v ↔ c.is β v := by
  cases c with
  | one c => exact RC.norm_is
  | agg cs => simp only [SV.norm, SV.is, all2_norm (R := RC.is β) (R' := RC.is β) (fun _ _ => RC.norm_is)]
theorem TV.norm_is {c : TV} {β : Env} {v : Value} : c.norm.is β v ↔ c.is β v := by
  cases c with
  | sv c => exact SV.norm_is
  | tup cs => simp only [TV.norm, TV.is, all2_norm (R := SV.is β) (R' := SV.is β) (fun _ _ => SV.norm_is)]

/-! ### A run from no memory: what it hands back -/
inductive TT where
  | leaf (tv : TV)
  | br (b : Bool) (t e : TT)
  | need (p : Prop) (t : TT)
  | stuck
def TT.wp : TT → (TV → Prop) → Prop
  | .leaf tv, K => K tv
  | .br b t e, K => (b = true → t.wp K) ∧ (b = false → e.wp K)
  | .need p t, K => p ∧ t.wp K
  | .stuck, _ => False
def OT.tt : OT → TT
  | .leaf tv mem => .leaf (freezeT (withDeads (slcOf tv ++ ptrsOf mem tv) mem) mem tv).norm
  | .br b t e => .br b t.tt e.tt
  | .need p t => .need p t.tt
  | .stuck => .stuck
theorem OT.tt_wp {K : TV → Prop} : ∀ {t : OT}, t.tt.wp K → t.wp fun tv mem => K (freezeT (withDeads (slcOf tv ++ ptrsOf mem tv) mem) mem tv).norm
  | .leaf _ _, h => h
  | .br _ _ _, h => ⟨fun hb => OT.tt_wp (h.1 hb), fun hb => OT.tt_wp (h.2 hb)⟩
  | .need _ _, h => ⟨h.1, OT.tt_wp h.2⟩
  | .stuck, h => h.elim

def runC (P : Program) (cts : List Ct) (lps : List (Nat × (St → Tree))) (fz : List Nat) (fuel : Nat) (fn : Func) (c : Code) (args : List SV) : TT := (runF P cts lps fz fuel fn c args []).tt

/-- No block bears a name; the blocks 'away' are others'. -/
def env0 (w : World) (away : Nat → Prop) : Env := ⟨fun _ => none, w, away⟩
/-- The call hands back what 'tv' says, and leaves alone whatever was there. -/
def RetT (w : World) (away : Nat → Prop) (tv : TV) : Ending → World → Prop := fun e w' => ∃ v, e = .returned v ∧ Below w.heap.size w w' ∧ tv.is (env0 w' away) v

def noS : Nat → Option Nat := fun _ => none
theorem MemRel.start (w : World) (away : Nat → Prop) (h : ∀ k, away k → k < w.heap.size) : MemRel noS ⟨w.heap.size, away⟩ w (env0 w away) [] w :=
  ⟨rfl, rfl, h, fun n t cs h => (by simp at h), fun n t k L h => (by simp at h), fun _ _ _ _ _ h => (by simp at h), fun n k h => (by cases h), fun n k h => (by cases h), fun n k h => (by cases h), Kept.refl _ _ _, Nat.le_refl _⟩

/-- What leads to no named block holds where no block bears a name. -/
theorem own_none {β : Env} (b : Nat) (h : β.own b) : (env0 β.w β.away).own b ∧ (env0 β.w β.away).w.heap[b]? = β.w.heap[b]? := ⟨⟨h.1, fun m hm => (by cases hm), h.2.2⟩, rfl⟩
theorem RC.nameless {β : Env} {c : RC} {v : Value} (h : c.is β v) : (match c with | .ptr _ _ | .slc _ _ _ _ | .fn _ _ | .sq _ _ | .sqs _ _ _ | .sqp _ _ => False | _ => True) → c.is (env0 β.w β.away) v := by
  intro hc
  cases c <;> try exact h
  case ptr => exact hc.elim
  case slc => exact hc.elim
  case fn => exact hc.elim
  case sq => exact hc.elim
  case sqs => exact hc.elim
  case sqp => exact hc.elim
  case co cs off => exact CV.is.move own_none _ _ h
  case clo f caps => exact CV.is.move own_none _ _ h
  case frz k L n => obtain ⟨b, off, c, h1, h2, h3⟩ := h; exact ⟨b, off, c, h1, h2, h3.lt, fun m hm => (by cases hm), h3.far, h3.cells⟩
  case fpt k L n j => obtain ⟨b, off, h1, h2, h3⟩ := h; exact ⟨b, off, h1, h2, h3.lt, fun m hm => (by cases hm), h3.far, h3.cells⟩
def RC.free : RC → Bool
  | .ptr _ _ | .slc _ _ _ _ | .fn _ _ | .sq _ _ | .sqs _ _ _ | .sqp _ _ => false
  | _ => true
def SV.free : SV → Bool
  | .one c => c.free
  | .agg cs => cs.all RC.free
def TV.free : TV → Bool
  | .sv s => s.free
  | .tup ss => ss.all SV.free
theorem RC.free_is {β : Env} {c : RC} {v : Value} (h : c.is β v) (hf : c.free = true) : c.is (env0 β.w β.away) v := RC.nameless h (by cases c <;> first | trivial | simp [RC.free] at hf)
theorem all2_all {α γ : Type} {R R' : α → γ → Prop} {p : α → Bool} (h : ∀ a v, R a v → p a = true → R' a v) : ∀ {l : List α} {vs : List γ}, all2 R l vs → l.all p = true → all2 R' l vs
  | [], [], _, _ => trivial
  | a :: l, v :: vs, r, hp => by
    simp only [List.all_cons, Bool.and_eq_true] at hp
    exact ⟨h a v r.1 hp.1, all2_all h r.2 hp.2⟩
  | [], _ :: _, r, _ => r.elim
  | _ :: _, [], r, _ => r.elim
theorem SV.free_is {β : Env} {c : SV} {v : Value} (h : c.is β v) (hf : c.free = true) : c.is (env0 β.w β.away) v := by
  cases c with
  | one c => exact RC.free_is h hf
  | agg cs => obtain ⟨vs, e, r⟩ := h; exact ⟨vs, e, all2_all (p := RC.free) (fun _ _ r p => RC.free_is r p) r hf⟩
theorem TV.free_is {β : Env} {c : TV} {v : Value} (h : c.is β v) (hf : c.free = true) : c.is (env0 β.w β.away) v := by
  cases c with
  | sv c => exact SV.free_is h hf
  | tup cs => obtain ⟨vs, e, r⟩ := h; exact ⟨vs, e, all2_all (p := SV.free) (fun _ _ r p => SV.free_is r p) r hf⟩

theorem calls_of_runT {P : Program} {cts : List Ct} {lps : List (Nat × (St → Tree))} {fz : List Nat} {fuel : Nat} (hmix : P.follows .mixedOrders = true) (hcts : ∀ c ∈ cts, CtOk P c) {f : FuncId} {fn : Func} {c : Code} (hf : P.funcs[f]? = some fn) (hb : fn.body = some c)
    (hlp : ∀ body ∈ loopsOf c, ∀ g, findLp (codeKey body) lps = some g → LpOk P body g) {args : List SV} {tv : TV} (hfree : tv.free = true) (h : (runC P cts lps fz fuel fn c args).wp (fun x => x = tv.norm)) {w : World} {away : Nat → Prop} (hfar : ∀ k, away k → k < w.heap.size)
    {vs : List Value} (ha : all2 (SV.is (env0 w away)) args vs) : Calls P f ⟨vs⟩ w (RetT w away tv) := by
  refine (calls_of_run hmix hcts hf hb hlp (OT.tt_wp h) (.inr fun _ => rfl) ha (MemRel.start w away hfar)).mono ?_
  rintro e w' ⟨v, he, tv', mem', β', hk, hv, hm⟩
  have h1 := freezeT_is (F := withDeads (slcOf tv' ++ ptrsOf mem' tv') mem') hm (fun _ _ => withDeads_live hm) (fun _ => rfl) hv
  rw [← TV.norm_is, hk, TV.norm_is] at h1
  have h2 := TV.free_is h1 hfree
  have ew : (minusβ β' (withDeads (slcOf tv' ++ ptrsOf mem' tv') mem')).w = w' := hm.wd
  have hkept := hm.kept
  refine ⟨v, he, ⟨hkept.os, hkept.tape, hkept.output, hkept.size, fun k hk' => hkept.block k hk' (by rintro ⟨n, h⟩; cases h)⟩, ?_⟩
  have ea : (minusβ β' (withDeads (slcOf tv' ++ ptrsOf mem' tv') mem')).away = away := hm.aw
  rw [ew, ea] at h2
  exact h2

/-! ### Contracts -/
theorem MemRel.kept' {S : Nat → Option Nat} {B : Base} {w0 : World} {β : Env} {mem : List Slot} {w w' : World} (h : MemRel S B w0 β mem w) (k : Below w.heap.size w w') : Ext β (β.to w') ∧ MemRel S B w0 (β.to w') mem w' := by
  have hw := h.wd
  have e : Ext β (β.to w') := Ext.moved (by rw [hw]; exact k.size) (fun j hj _ => by rw [hw] at hj ⊢; exact k.block j hj) (by rw [hw]; exact roomAt_le k.block)
  exact ⟨e, rfl, h.aw, h.far, fun n t cs hn => by
      obtain ⟨j, hj, hh⟩ := h.blk n t cs hn
      exact ⟨j, hj, (hh.ext e).same (k.block j (h.rng n j hj).2)⟩,
    fun n t i L hn => ⟨fun b hb => ((h.seq n t i L hn).1 b hb).same (k.block b (h.rng n b hb).2), (h.seq n t i L hn).2⟩,
    h.inj, fun n j hj => ⟨(h.rng n j hj).1, Nat.lt_of_lt_of_le (h.rng n j hj).2 k.size⟩, h.used, h.came,
    h.kept.trans ⟨k.os, k.tape, k.output, k.size, fun j hj _ => k.block j (Nat.lt_of_lt_of_le hj h.sz), roomAt_le k.block⟩, Nat.le_trans h.sz k.size⟩

theorem run_enter {P : Program} {f : FuncId} {fn : Func} (hf : P.funcs[f]? = some fn) (hname : (fn.name == "runtime.NumGoroutine") = false) (hb : fn.body.isNone = false) (args : Array Value) (w : World) : (callFunc f args).run P w = .ok (.enter f args) w := by
  have h1 : fn.name ≠ "runtime.NumGoroutine" := by simpa using hname
  have h2 : ¬ fn.body = none := by intro e; rw [e] at hb; cases hb
  simp [callFunc, hf, h1, h2]

/-- Arguments by their shapes. -/
inductive Sh where
  | num (k : IntKind)
  | nums (k : IntKind) (n : Nat)
  | str
  | strn (n : Nat)
  | bool
  | frz (k : IntKind) (n : Nat)
  | frzs (k : IntKind) (n m : Nat)
  | con (k : IntKind) (x : Int)
  | obj (p : List CV)
  | conA (k : IntKind) (xs : List Int)
inductive D where
  | I (x : Int)
  | L (l : List Int)
  | S (s : ByteArray)
  | B (b : Bool)
  | LL (l : List (List Int))
  | O (r : List CV)
/-- The first n of a list, noughts behind its end. -/
def toLen (n : Nat) (L : List Int) : List Int := (List.range n).map fun j => L.getD j 0
theorem toLen_length (n : Nat) (L : List Int) : (toLen n L).length = n := by simp [toLen]
theorem toLen_getD {n : Nat} {L : List Int} {j : Nat} (h : j < n) : (toLen n L).getD j 0 = L.getD j 0 := by
  simp [toLen, h]
theorem Frozen.toLen {β : Env} {b off : Nat} {k : IntKind} {L : List Int} {n : Nat} (h : Frozen β b off k L n) : Frozen β b off k (toLen n L) n :=
  ⟨h.lt, h.no, h.far, let ⟨cs, t, fr, h1, h2⟩ := h.cells; ⟨cs, t, fr, h1, fun j hj => by rw [toLen_getD hj]; exact h2 j hj⟩⟩
def frzsOf (k : IntKind) (n : Nat) : List RC → Option (List (List Int))
  | [] => some []
  | .frz k' L n' :: r => match frzsOf k n r with
    | some l => if k' = k ∧ n' = n then some (toLen n L :: l) else none
    | none => none
  | _ => none
/-- What is behind the first cells, if these are as they must be. -/
def CV.behind : List CV → List CV → Option (List CV)
  | [], r => some r
  | p :: ps, c :: cs => match CV.eqB p c with
    | true => CV.behind ps cs
    | false => none
  | _ :: _, [] => none
theorem CV.behind_is : ∀ {p cs r : List CV}, CV.behind p cs = some r → cs = p ++ r
  | [], _, _, h => by cases h; rfl
  | p :: ps, c :: cs, r, h => by
    unfold CV.behind at h
    split at h
    · rename_i he
      rw [CV.eqB_is _ _ he, CV.behind_is h]; rfl
    · cases h
  | _ :: _, [], _, h => by cases h
/-- These known numbers. -/
def litsB (k : IntKind) : List Int → List RC → Bool
  | [], [] => true
  | x :: xs, .lit k' y :: cs => decide (k' = k) && (decide (y = x) && litsB k xs cs)
  | _, _ => false
theorem litsB_is {k : IntKind} : ∀ {xs : List Int} {cs : List RC}, litsB k xs cs = true → cs = xs.map (RC.lit k)
  | [], [], _ => rfl
  | x :: xs, c :: cs, h => by
    cases c <;> simp only [litsB] at h <;> try (cases h; done)
    simp only [Bool.and_eq_true, decide_eq_true_eq] at h
    obtain ⟨rfl, rfl, h⟩ := h
    rw [litsB_is h]; rfl
  | [], _ :: _, h => by simp [litsB] at h
  | _ :: _, [], h => by simp [litsB] at h
def Sh.get : Sh → SV → Option D
  | .num k, .one c => match c.num with
    | some (_, k', x) => if k' = k then some (.I x) else none
    | none => none
  | .nums k n, .agg cs => match numsOf k cs with
    | some l => if l.length = n then some (.L l) else none
    | none => none
  | .str, .one c => match c.string? with
    | some s => some (.S s)
    | none => none
  | .strn n, .one (.strn s m _) => if m = n then some (.S s) else none
  | .bool, .one c => match (TV.sv (.one c)).bool? with
    | some (_, b) => some (.B b)
    | none => none
  | .frz k n, .one (.frz k' L n') => if k' = k ∧ n' = n then some (.L (toLen n L)) else none
  | .frzs k n m, .agg cs => match frzsOf k n cs with
    | some l => if l.length = m then some (.LL l) else none
    | none => none
  | .con k x, .one (.lit k' y) => if k' = k ∧ y = x then some (.I x) else none
  | .obj p, .one (.co cs 0) => (CV.behind p cs).map .O
  | .conA k xs, .agg cs => match litsB k xs cs with
    | true => some (.L xs)
    | false => none
  | _, _ => none
def Sh.fits : Sh → D → Prop
  | .num _, .I _ => True
  | .nums _ n, .L l => l.length = n
  | .str, .S _ => True
  | .strn n, .S s => s.size = n
  | .bool, .B _ => True
  | .frz _ n, .L l => l.length = n
  | .frzs _ n m, .LL l => l.length = m ∧ ∀ x ∈ l, x.length = n
  | .con _ x, .I y => y = x
  | .obj _, .O _ => True
  | .conA _ xs, .L l => l = xs
  | _, _ => False
/-- What stands for the datum in a run. -/
def Sh.sv : Sh → D → SV
  | .num k, .I x => .one (.int k x)
  | .nums k _, .L l => .agg (l.map (RC.int k))
  | .frz k n, .L l => .one (.frz k l n)
  | .frzs k n _, .LL l => .agg (l.map fun x => RC.frz k x n)
  | .con k _, .I x => .one (.int k x)
  | .obj p, .O r => .one (.co (p ++ r) 0)
  | .conA k _, .L l => .agg (l.map (RC.int k))
  | _, .S s => .one (.str s)
  | _, .B b => .one (.bool b)
  | _, _ => .one .any
theorem frzsOf_is {β : Env} {k : IntKind} {n : Nat} : ∀ {cs : List RC} {l : List (List Int)} {vs : List Value}, frzsOf k n cs = some l → all2 (RC.is β) cs vs → all2 (RC.is β) (l.map fun x => RC.frz k x n) vs ∧ ∀ x ∈ l, x.length = n
  | [], l, vs, h, r => by simp [frzsOf] at h; subst h; exact ⟨r, by simp⟩
  | c :: cs, l, vs, h, r => by
    obtain ⟨v, vs', rfl, r1, r2⟩ := all2_cons_left r
    cases c <;> simp only [frzsOf] at h <;> try (cases h; done)
    split at h
    · rename_i l' hl
      split at h
      · rename_i hk
        obtain ⟨rfl, rfl⟩ := hk
        cases h
        obtain ⟨i1, i2⟩ := frzsOf_is hl r2
        obtain ⟨b, off, c, h1, h2, h3⟩ := r1
        refine ⟨⟨⟨b, off, c, h1, h2, h3.toLen⟩, i1⟩, ?_⟩
        intro x hx
        rcases List.mem_cons.1 hx with rfl | hx
        · exact toLen_length _ _
        · exact i2 x hx
      · cases h
    · cases h
theorem nums_is (β : Env) (k : IntKind) : ∀ l : List Int, all2 (RC.is β) (l.map (RC.int k)) (l.map (Value.int k))
  | [] => trivial
  | _ :: l => ⟨rfl, nums_is β k l⟩
theorem lits_nums (k : IntKind) : ∀ xs : List Int, numsOf k (xs.map (RC.lit k)) = some xs
  | [] => rfl
  | x :: xs => by simp only [List.map_cons, numsOf, RC.num, lits_nums k xs, if_true]
theorem Sh.get_is {sh : Sh} {s : SV} {d : D} (h : sh.get s = some d) {β : Env} {v : Value} (r : s.is β v) : sh.fits d ∧ (sh.sv d).is β v := by
  unfold Sh.get at h
  split at h
  · split at h
    · rename_i l k' x hn
      split at h
      · rename_i hk; cases h; subst hk; exact ⟨trivial, RC.num_is hn r⟩
      · cases h
    · cases h
  · split at h
    · rename_i l hl
      split at h
      · rename_i hlen; cases h
        obtain ⟨vs, e, r2⟩ := r
        refine ⟨hlen, vs, e, ?_⟩
        rw [numsOf_is hl r2]; exact nums_is β _ _
      · cases h
    · cases h
  · split at h
    · rename_i s hs; cases h; exact ⟨trivial, RC.string_is hs r⟩
    · cases h
  · split at h
    · rename_i s m hs hm; cases h; subst hm; exact ⟨hs, r⟩
    · cases h
  · split at h
    · rename_i l b hb; cases h; exact ⟨trivial, TV.bool_is hb r⟩
    · cases h
  · split at h
    · rename_i hk
      cases h
      obtain ⟨rfl, rfl⟩ := hk
      obtain ⟨b, off, c, h1, h2, h3⟩ := r
      exact ⟨toLen_length _ _, b, off, c, h1, h2, h3.toLen⟩
    · cases h
  · split at h
    · rename_i l hl
      split at h
      · rename_i hlen; cases h
        obtain ⟨vs, e, r2⟩ := r
        obtain ⟨i1, i2⟩ := frzsOf_is hl r2
        exact ⟨⟨hlen, i2⟩, vs, e, i1⟩
      · cases h
    · cases h
  · split at h
    · rename_i hk
      cases h
      obtain ⟨rfl, rfl⟩ := hk
      exact ⟨rfl, r⟩
    · cases h
  · obtain ⟨rest, h1, rfl⟩ := Option.map_eq_some_iff.1 h
    have e := CV.behind_is h1
    subst e
    exact ⟨trivial, r⟩
  · split at h
    · rename_i hb
      cases h
      have e := litsB_is hb
      subst e
      obtain ⟨vs, e, r2⟩ := r
      refine ⟨rfl, vs, e, ?_⟩
      have hv : vs = _ := numsOf_is (k := _) (l := _) (lits_nums _ _) r2
      rw [hv]; exact nums_is β _ _
    · cases h
  · cases h
def getAll : List Sh → List SV → Option (List D)
  | [], [] => some []
  | sh :: r, s :: q => match sh.get s, getAll r q with
    | some d, some l => some (d :: l)
    | _, _ => none
  | _, _ => none
def fitsAll : List Sh → List D → Prop
  | [], [] => True
  | sh :: r, d :: q => sh.fits d ∧ fitsAll r q
  | _, _ => False
def svAll : List Sh → List D → List SV
  | sh :: r, d :: q => sh.sv d :: svAll r q
  | _, _ => []
theorem getAll_is {β : Env} : ∀ {shs : List Sh} {args : List SV} {ds : List D} {vs : List Value}, getAll shs args = some ds → all2 (SV.is β) args vs → fitsAll shs ds ∧ all2 (SV.is β) (svAll shs ds) vs
  | [], [], ds, vs, h, r => by simp [getAll] at h; subst h; exact ⟨trivial, by rw [all2_nil_left r]; trivial⟩
  | sh :: shs, s :: args, ds, vs, h, r => by
    obtain ⟨v, vs', rfl, r1, r2⟩ := all2_cons_left r
    unfold getAll at h
    split at h
    · rename_i d l h1 h2
      cases h
      obtain ⟨a1, a2⟩ := Sh.get_is h1 r1
      obtain ⟨b1, b2⟩ := getAll_is h2 r2
      exact ⟨⟨a1, b1⟩, a2, b2⟩
    · cases h
  | [], _ :: _, _, _, h, _ => by cases h
  | _ :: _, [], _, _, h, _ => by cases h
theorem Sh.sv_free {sh : Sh} {d : D} : (sh.sv d).free = true := by
  cases sh <;> cases d <;> simp [Sh.sv, SV.free, RC.free]
theorem svAll_free : ∀ {shs : List Sh} {ds : List D}, (svAll shs ds).all SV.free = true
  | [], _ => rfl
  | _ :: _, [] => rfl
  | sh :: shs, d :: ds => by simp only [svAll, List.all_cons, Sh.sv_free, svAll_free, Bool.and_self]

/-- A function that only computes: by the shapes of what it is handed, and what it comes to. -/
def shCt (f : FuncId) (shs : List Sh) (out : List D → List Prop × TV) : Ct :=
  ⟨f, .comp fun args => match getAll shs args with
    | some ds => some (out ds)
    | none => none⟩

/-- The names' blocks and those that are away already. -/
def Env.busy (β : Env) : Nat → Prop := fun k => β.away k ∨ ∃ n, β n = some k
theorem own_busy {β : Env} (b : Nat) (h : (env0 β.w β.busy).own b) : β.own b ∧ β.w.heap[b]? = (env0 β.w β.busy).w.heap[b]? := ⟨⟨h.1, fun m hm => h.2.2 (.inr ⟨m, hm⟩), fun ha => h.2.2 (.inl ha)⟩, rfl⟩
theorem own_toBusy {β : Env} (b : Nat) (h : β.own b) : (env0 β.w β.busy).own b ∧ (env0 β.w β.busy).w.heap[b]? = β.w.heap[b]? := ⟨⟨h.1, fun m hm => (by cases hm), by
  rintro (ha | ⟨n, hn⟩)
  · exact h.2.2 ha
  · exact h.2.1 n hn⟩, rfl⟩
theorem RC.busy {β : Env} {c : RC} {v : Value} (h : c.is (env0 β.w β.busy) v) (hf : c.free = true) : c.is β v := by
  cases c <;> try exact h
  case ptr => simp [RC.free] at hf
  case slc => simp [RC.free] at hf
  case fn => simp [RC.free] at hf
  case sq => simp [RC.free] at hf
  case sqs => simp [RC.free] at hf
  case sqp => simp [RC.free] at hf
  case co cs off => exact CV.is.move own_busy _ _ h
  case clo f caps => exact CV.is.move own_busy _ _ h
  case frz k L n => obtain ⟨b, off, c, h1, h2, h3⟩ := h; exact ⟨b, off, c, h1, h2, h3.lt, fun m hm => h3.far (.inr ⟨m, hm⟩), fun ha => h3.far (.inl ha), h3.cells⟩
  case fpt k L n j => obtain ⟨b, off, h1, h2, h3⟩ := h; exact ⟨b, off, h1, h2, h3.lt, fun m hm => h3.far (.inr ⟨m, hm⟩), fun ha => h3.far (.inl ha), h3.cells⟩
theorem SV.busy {β : Env} {c : SV} {v : Value} (h : c.is (env0 β.w β.busy) v) (hf : c.free = true) : c.is β v := by
  cases c with
  | one c => exact RC.busy h hf
  | agg cs => obtain ⟨vs, e, r⟩ := h; exact ⟨vs, e, all2_all (p := RC.free) (fun _ _ r p => RC.busy r p) r hf⟩
theorem TV.busy {β : Env} {c : TV} {v : Value} (h : c.is (env0 β.w β.busy) v) (hf : c.free = true) : c.is β v := by
  cases c with
  | sv c => exact SV.busy h hf
  | tup cs => obtain ⟨vs, e, r⟩ := h; exact ⟨vs, e, all2_all (p := SV.free) (fun _ _ r p => SV.busy r p) r hf⟩
theorem RC.toBusy {β : Env} {c : RC} {v : Value} (h : c.is β v) (hf : c.free = true) : c.is (env0 β.w β.busy) v := by
  cases c <;> try exact h
  case ptr => simp [RC.free] at hf
  case slc => simp [RC.free] at hf
  case fn => simp [RC.free] at hf
  case sq => simp [RC.free] at hf
  case sqs => simp [RC.free] at hf
  case sqp => simp [RC.free] at hf
  case co cs off => exact CV.is.move own_toBusy _ _ h
  case clo f caps => exact CV.is.move own_toBusy _ _ h
  case frz k L n =>
    obtain ⟨b, off, c, h1, h2, h3⟩ := h
    refine ⟨b, off, c, h1, h2, h3.lt, fun m hm => (by cases hm), ?_, h3.cells⟩
    rintro (ha | ⟨n, hn⟩)
    · exact h3.far ha
    · exact h3.no n hn
  case fpt k L n j =>
    obtain ⟨b, off, h1, h2, h3⟩ := h
    refine ⟨b, off, h1, h2, h3.lt, fun m hm => (by cases hm), ?_, h3.cells⟩
    rintro (ha | ⟨n, hn⟩)
    · exact h3.far ha
    · exact h3.no n hn
theorem SV.toBusy {β : Env} {c : SV} {v : Value} (h : c.is β v) (hf : c.free = true) : c.is (env0 β.w β.busy) v := by
  cases c with
  | one c => exact RC.toBusy h hf
  | agg cs => obtain ⟨vs, e, r⟩ := h; exact ⟨vs, e, all2_all (p := RC.free) (fun _ _ r p => RC.toBusy r p) r hf⟩

theorem shCt_ok {P : Program} {f : FuncId} {fn : Func} (hf : P.funcs[f]? = some fn) (hname : (fn.name == "runtime.NumGoroutine") = false) (hb : fn.body.isNone = false) {shs : List Sh} {out : List D → List Prop × TV}
    (h : ∀ ds, fitsAll shs ds → (∀ p ∈ (out ds).1, p) → (out ds).2.free = true ∧ ∀ w away, (∀ k, away k → k < w.heap.size) → ∀ vs, all2 (SV.is (env0 w away)) (svAll shs ds) vs → Calls P f ⟨vs⟩ w (RetT w away (out ds).2)) : CtOk P (shCt f shs out) := by
  intro args mem nm need tv mem' hr hn S B w0 β w vs ha hm
  simp only [Ct.run, shCt] at hr
  split at hr
  · rename_i need' tv' hg
    cases hr
    split at hg
    · rename_i ds hds
      obtain ⟨h1, h2⟩ := getAll_is hds ha
      have hout : out ds = (need, tv) := by injection hg
      have hn' : ∀ p ∈ (out ds).1, p := by rw [hout]; exact hn
      obtain ⟨hfree, hcall⟩ := h ds h1 hn'
      rw [hout] at hfree hcall
      have hw := hm.wd
      have hfar : ∀ k, β.busy k → k < w.heap.size := by
        rintro k (hk | ⟨n, hk⟩)
        · have := hm.far k (hm.aw ▸ hk); have := hm.sz; omega
        · exact (hm.rng n k hk).2
      have hargs : all2 (SV.is (env0 w β.busy)) (svAll shs ds) vs := by
        rw [← hw]
        exact all2_all (p := SV.free) (fun _ _ r p => SV.toBusy r p) h2 svAll_free
      show Does P ((callFunc f ⟨vs⟩).run P w) _
      rw [run_enter hf hname hb]
      refine (hcall w β.busy hfar vs hargs).mono ?_
      rintro e w' ⟨v, he, hbel, htv⟩
      obtain ⟨ext, hm'⟩ := hm.kept' hbel
      exact ⟨v, he, β.to w', ext, TV.busy (β := β.to w') htv hfree, hm'⟩
    · cases hg
  · cases hr

/-- A contract from a run. -/
theorem runCt_ok {P : Program} {cts : List Ct} {lps : List (Nat × (St → Tree))} {fz : List Nat} {fuel : Nat} (hmix : P.follows .mixedOrders = true) (hcts : ∀ c ∈ cts, CtOk P c) {f : FuncId} {fn : Func} {c : Code} (hf : P.funcs[f]? = some fn) (hb : fn.body = some c) (hname : (fn.name == "runtime.NumGoroutine") = false)
    (hlp : ∀ body ∈ loopsOf c, ∀ g, findLp (codeKey body) lps = some g → LpOk P body g) {shs : List Sh} {out : List D → List Prop × TV} (hfree : ∀ ds, (out ds).2.free = true)
    (h : ∀ ds, fitsAll shs ds → (∀ p ∈ (out ds).1, p) → ∃ args, (∀ β vs, all2 (SV.is β) (svAll shs ds) vs → all2 (SV.is β) args vs) ∧ (runC P cts lps fz fuel fn c args).wp (fun x => x = (out ds).2.norm)) : CtOk P (shCt f shs out) :=
  shCt_ok hf hname (by rw [hb]; rfl) fun ds h1 h2 => ⟨hfree ds, fun w away hfar vs hvs => by
    obtain ⟨args, ha, hr⟩ := h ds h1 h2
    exact calls_of_runT hmix hcts hf hb hlp (hfree ds) hr hfar (ha _ _ hvs)⟩

def bodyOf (fn : Func) : Code := fn.body.getD .skip

/-! ### A tree of ways as one way -/
def bifRC (b : Bool) : RC → RC → Option RC
  | .int k x, .int k' y => if k = k' then some (.int k (bif b then x else y)) else none
  | .bool x, .bool y => some (.bool (bif b then x else y))
  | .str x, .str y => some (.str (bif b then x else y))
  | .frz k L n, .frz k' M n' => if k = k' ∧ n = n' then some (.frz k (bif b then L else M) n) else none
  | _, _ => none
theorem bifRC_eq {b : Bool} {x y z : RC} (h : bifRC b x y = some z) : z = bif b then x else y := by
  unfold bifRC at h
  split at h
  · split at h
    · rename_i hk; cases h; subst hk; cases b <;> rfl
    · cases h
  · cases h; cases b <;> rfl
  · cases h; cases b <;> rfl
  · split at h
    · rename_i hk; cases h; obtain ⟨rfl, rfl⟩ := hk; cases b <;> rfl
    · cases h
  · cases h
def bifL {α : Type} (f : α → α → Option α) : List α → List α → Option (List α)
  | [], [] => some []
  | x :: r, y :: s => match f x y, bifL f r s with
    | some z, some l => some (z :: l)
    | _, _ => none
  | _, _ => none
theorem bifL_eq {α : Type} {f : α → α → Option α} {b : Bool} (hf : ∀ x y z, f x y = some z → z = bif b then x else y) : ∀ {l m o : List α}, bifL f l m = some o → o = bif b then l else m
  | [], [], o, h => by simp [bifL] at h; subst h; cases b <;> rfl
  | x :: r, y :: s, o, h => by
    unfold bifL at h
    split at h
    · rename_i z l' h1 h2
      cases h
      rw [hf _ _ _ h1, bifL_eq hf h2]
      cases b <;> rfl
    · cases h
  | [], _ :: _, _, h => by cases h
  | _ :: _, [], _, h => by cases h
def bifSV (b : Bool) : SV → SV → Option SV
  | .one x, .one y => (bifRC b x y).map .one
  | .agg l, .agg m => (bifL (bifRC b) l m).map .agg
  | _, _ => none
theorem bifSV_eq {b : Bool} {x y z : SV} (h : bifSV b x y = some z) : z = bif b then x else y := by
  unfold bifSV at h
  split at h
  · obtain ⟨c, h1, rfl⟩ := Option.map_eq_some_iff.1 h
    rw [bifRC_eq h1]; cases b <;> rfl
  · obtain ⟨c, h1, rfl⟩ := Option.map_eq_some_iff.1 h
    rw [bifL_eq (fun _ _ _ => bifRC_eq) h1]; cases b <;> rfl
  · cases h
def bifTV (b : Bool) : TV → TV → Option TV
  | .sv x, .sv y => (bifSV b x y).map .sv
  | .tup l, .tup m => (bifL (bifSV b) l m).map .tup
  | _, _ => none
theorem bifTV_eq {b : Bool} {x y z : TV} (h : bifTV b x y = some z) : z = bif b then x else y := by
  unfold bifTV at h
  split at h
  · obtain ⟨c, h1, rfl⟩ := Option.map_eq_some_iff.1 h
    rw [bifSV_eq h1]; cases b <;> rfl
  · obtain ⟨c, h1, rfl⟩ := Option.map_eq_some_iff.1 h
    rw [bifL_eq (fun _ _ _ => bifSV_eq) h1]; cases b <;> rfl
  · cases h
/-- All ways as one: what must hold, and what comes out. -/
def TT.one : TT → Option (List Prop × TV)
  | .leaf tv => some ([], tv)
  | .br b t e => match t.one, e.one with
    | some (l, x), some (m, y) => (bifTV b x y).map fun z => ((l.map fun p => b = true → p) ++ m.map fun p => b = false → p, z)
    | _, _ => none
  | .need p t => match t.one with
    | some (l, x) => some (p :: l, x)
    | none => none
  | .stuck => none
theorem TT.one_wp : ∀ {t : TT} {l : List Prop} {z : TV}, t.one = some (l, z) → (∀ p ∈ l, p) → t.wp fun x => x = z
  | .leaf tv, l, z, h, _ => by simp [TT.one] at h; exact h.2
  | .br b t e, l, z, h, hl => by
    unfold TT.one at h
    split at h
    · rename_i l1 x l2 y h1 h2
      obtain ⟨z', h3, h4⟩ := Option.map_eq_some_iff.1 h
      cases h4
      have hz := bifTV_eq h3
      refine ⟨fun hb => ?_, fun hb => ?_⟩
      · rw [hz, hb]
        exact TT.one_wp h1 fun p hp => hl (b = true → p) (List.mem_append_left _ (List.mem_map.2 ⟨p, hp, rfl⟩)) hb
      · rw [hz, hb]
        exact TT.one_wp h2 fun p hp => hl (b = false → p) (List.mem_append_right _ (List.mem_map.2 ⟨p, hp, rfl⟩)) hb
    · cases h
  | .need p t, l, z, h, hl => by
    unfold TT.one at h
    split at h
    · rename_i l' x h1
      cases h
      exact ⟨hl p (by simp), TT.one_wp h1 fun q hq => hl q (by simp [hq])⟩
    · cases h
  | .stuck, _, _, h, _ => by cases h

/-- A contract from a run whose ways come together. -/
theorem oneCt_ok {P : Program} {cts : List Ct} {fz : List Nat} {fuel : Nat} (hmix : P.follows .mixedOrders = true) (hcts : ∀ c ∈ cts, CtOk P c) {f : FuncId} {fn : Func} (hf : P.funcs[f]? = some fn) (hb : fn.body.isNone = false) (hname : (fn.name == "runtime.NumGoroutine") = false)
    {shs : List Sh} {out : List D → List Prop × TV} (hfree : ∀ ds, (out ds).2.free = true)
    (h : ∀ ds, fitsAll shs ds → (∀ p ∈ (out ds).1, p) → ∃ args, (∀ β vs, all2 (SV.is β) (svAll shs ds) vs → all2 (SV.is β) args vs) ∧ ∃ l, (runC P cts [] fz fuel fn (bodyOf fn) args).one = some (l, (out ds).2.norm) ∧ ∀ p ∈ l, p) : CtOk P (shCt f shs out) := by
  have hbody : fn.body = some (bodyOf fn) := by
    unfold bodyOf
    cases e : fn.body with
    | none => rw [e] at hb; cases hb
    | some c => rfl
  refine runCt_ok (lps := []) (fz := fz) (fuel := fuel) hmix hcts hf hbody hname (fun _ _ g hg => by cases hg) hfree fun ds h1 h2 => ?_
  obtain ⟨args, ha, l, hl, hp⟩ := h ds h1 h2
  exact ⟨args, ha, TT.one_wp hl hp⟩

/-- n numbers of a list, one by one. -/
def cellsL (k : IntKind) (n : Nat) (L : List Int) : List RC := (List.range n).map fun j => RC.int k (L.getD j 0)
theorem cellsL_free (k : IntKind) (n : Nat) (L : List Int) : (cellsL k n L).all RC.free = true := by simp [cellsL, RC.free]
def numsT (k : IntKind) (n : Nat) (L : List Int) : TV := .sv (.agg (cellsL k n L))

/-! ### Functions that hand back a slice of their own -/
theorem MemRel.adopt {S : Nat → Option Nat} {B : Base} {w0 : World} {β : Env} {mem : List Slot} {w w' : World} (h : MemRel S B w0 β mem w) (hk : Below w.heap.size w w') {n b : Nat} (hn : mem[n]? = some .free) (hb : w.heap.size ≤ b) (hb' : b < w'.heap.size)
    {t : TypeId} {cs : List RC} {vs more : List Value} {fr : Nat × Nat} (hcell : w'.heap[b]? = some (.cells ⟨vs ++ more⟩ t fr)) (hfr : ∀ j, j < (vs ++ more).length → ¬ (fr.1 ≤ j ∧ j < fr.2)) (hc : ∀ β, all2 (RC.is β) cs vs) :
    Ext β (updβ β n b w') ∧ MemRel S B w0 (updβ β n b w') (mem.set n (.blk t cs)) w' :=
  h.adoptS hk hn hb hb' (s0 := .blk t cs) ⟨vs, more, fr, hcell, hc _, hfr⟩

/-- What a run hands back, if it is a slice of its own, of n numbers and no more. -/
def ownOf (k : IntKind) (n : Nat) (e : TypeId) : OT → Option (List Int)
  | .leaf (.sv (.one (.slc m 0 l (some c)))) mem => if l = n ∧ c = n then
      (match mem[m]? with
      | some (.blk e' cs) => if e' = e then
          (match numsOf k cs with
          | some xs => if xs.length = n then some xs else none
          | none => none)
        else none
      | _ => none)
    else none
  | _ => none
def ownCt (f : FuncId) (shs : List Sh) (k : IntKind) (n : Nat) (e : TypeId) (out : List D → List Int) : Ct :=
  ⟨f, .own fun args nm => match getAll shs args with
    | some ds => some (.sv (.one (.slc nm 0 n (some n))), e, cellsL k n (out ds))
    | none => none⟩
theorem cellsL_toLen (k : IntKind) (n : Nat) (L : List Int) : cellsL k n L = (toLen n L).map (RC.int k) := by simp [cellsL, toLen]
theorem ownCt_ok {P : Program} {cts : List Ct} {fz : List Nat} {fuel : Nat} (hmix : P.follows .mixedOrders = true) (hcts : ∀ c ∈ cts, CtOk P c) {f : FuncId} {fn : Func} (hf : P.funcs[f]? = some fn) (hb : fn.body.isNone = false) (hname : (fn.name == "runtime.NumGoroutine") = false)
    {shs : List Sh} {k : IntKind} {n : Nat} {e : TypeId} {out : List D → List Int}
    (h : ∀ ds, fitsAll shs ds → ∃ args, (∀ β vs, all2 (SV.is β) (svAll shs ds) vs → all2 (SV.is β) args vs) ∧ ownOf k n e (runF P cts [] fz fuel fn (bodyOf fn) args []) = some (toLen n (out ds))) : CtOk P (ownCt f shs k n e out) := by
  have hbody : fn.body = some (bodyOf fn) := by
    unfold bodyOf
    cases e : fn.body with
    | none => rw [e] at hb; cases hb
    | some c => rfl
  intro args mem nm need tv mem' hr hn S B w0 β w vs ha hm
  simp only [Ct.run, ownCt] at hr
  split at hr
  · rename_i tv1 t1 cs1 hfree hgo
    split at hgo <;> try (cases hgo; done)
    rename_i ds hds
    cases hgo
    cases hr
    obtain ⟨f1, f2⟩ := getAll_is hds ha
    obtain ⟨as, ha', hown⟩ := h ds f1
    generalize hrun : runF P cts [] fz fuel fn (bodyOf fn) as [] = t at hown
    unfold ownOf at hown
    split at hown <;> try (cases hown; done)
    rename_i m l c mem1
    split at hown <;> try (cases hown; done)
    rename_i hlc
    obtain ⟨rfl, rfl⟩ := hlc
    split at hown <;> try (cases hown; done)
    rename_i e' cs hslot
    split at hown <;> try (cases hown; done)
    rename_i he
    subst he
    split at hown <;> try (cases hown; done)
    rename_i xs hxs
    split at hown <;> try (cases hown; done)
    rename_i hlen
    cases hown
    have hargs : all2 (SV.is (env0 w β.busy)) as vs := by
      have hw := hm.wd
      rw [← hw]
      exact ha' _ _ (all2_all (p := SV.free) (fun _ _ r p => SV.toBusy r p) f2 svAll_free)
    have hfar : ∀ k, β.busy k → k < w.heap.size := by
      rintro k (hk | ⟨n, hk⟩)
      · have := hm.far k (hm.aw ▸ hk); have := hm.sz; omega
      · exact (hm.rng n k hk).2
    show Does P ((callFunc f ⟨vs⟩).run P w) _
    rw [run_enter hf hname hb]
    refine (calls_of_run (K := fun tv mem' => tv = .sv (.one (.slc m 0 c (some c))) ∧ mem' = mem1) hmix hcts hf hbody (lps := []) (fz := fz) (fuel := fuel) (fun _ _ g hg => by cases hg) (by rw [hrun]; exact ⟨rfl, rfl⟩) (.inr fun _ => rfl) hargs (MemRel.start w β.busy hfar)).mono ?_
    rintro en w' ⟨v, he, tv1, mem2, β', ⟨rfl, rfl⟩, hv, hm'⟩
    obtain ⟨b, c', hb1, hcap, hle, _, ev⟩ := hv
    have hcc := hcap c rfl
    subst hcc
    obtain ⟨b2, hb2, vs2, more, fr, q1, q2, q3⟩ := hm'.blk m e' cs hslot
    rw [hb1] at hb2; cases hb2
    have hkept := hm'.kept
    have hbel : Below w.heap.size w w' := ⟨hkept.os, hkept.tape, hkept.output, hkept.size, fun k hk' => hkept.block k hk' (by rintro ⟨n, h⟩; cases h)⟩
    have hr := hm'.rng m b hb1
    have hbb : w.heap.size ≤ b := by
      rcases hr.1 with ⟨n, h⟩ | h
      · cases h
      · exact h
    have hvs : vs2 = (toLen c' (out ds)).map (Value.int k) := numsOf_is hxs q2
    subst hvs
    obtain ⟨ext, hmem⟩ := hm.adopt hbel hfree hbb hr.2 (cs := cellsL k c' (out ds)) q1 q3 (fun β => by rw [cellsL_toLen]; exact nums_is β _ _)
    exact ⟨v, he, _, ext, ⟨b, c', updβ_self _ _ _ _, (by intro m' hm'; cases hm'; rfl), Nat.le_refl _, (by simp), ev⟩, hmem⟩
  · cases hr

/-- One of two contracts of a function. -/
def orCt (c d : Ct) : Ct :=
  match c.kind, d.kind with
  | .comp g, .comp h => ⟨c.f, .comp fun args => match g args with
    | some r => some r
    | none => h args⟩
  | .view g, .view h => ⟨c.f, .view fun args => match g args with
    | some r => some r
    | none => h args⟩
  | .own g, .own h => ⟨c.f, .own fun args nm => match g args nm with
    | some r => some r
    | none => h args nm⟩
  | .memo n g, .memo _ h => ⟨c.f, .memo n fun args mem nm => match g args mem nm with
    | some r => some r
    | none => h args mem nm⟩
  | _, _ => c
theorem orCt_ok {P : Program} {c d : Ct} (hc : CtOk P c) (hd : CtOk P d) (hf : d.f = c.f) : CtOk P (orCt c d) := by
  obtain ⟨f, ck⟩ := c
  obtain ⟨f', dk⟩ := d
  dsimp only at hf
  subst hf
  unfold orCt
  cases ck <;> cases dk <;> dsimp only <;> try exact hc
  · intro args mem nm need tv mem' hr
    simp only [Ct.run] at hr
    split at hr
    · rename_i nd tv' hg
      cases hr
      split at hg
      · rename_i r hg'
        cases hg
        exact hc args mem nm _ _ _ (by simp only [Ct.run, hg'])
      · exact hd args mem nm _ _ _ (by simp only [Ct.run, hg])
    · cases hr
  · intro args mem nm need tv mem' hr
    simp only [Ct.run] at hr
    split at hr
    · rename_i tv' hg
      cases hr
      obtain ⟨l, h1, h2⟩ := Option.bind_eq_some_iff.1 hg
      split at h2
      · rename_i r hg'
        cases h2
        exact hc args mem nm _ _ _ (by simp only [Ct.run, h1, Option.bind_some, hg'])
      · exact hd args mem nm _ _ _ (by simp only [Ct.run, h1, Option.bind_some, h2])
    · cases hr
  · intro args mem nm need tv mem' hr
    simp only [Ct.run] at hr
    split at hr
    · rename_i tv' t cs hfree hg
      cases hr
      split at hg
      · rename_i r hg'
        cases hg
        exact hc args mem nm _ _ _ (by simp only [Ct.run, hfree, hg'])
      · exact hd args mem nm _ _ _ (by simp only [Ct.run, hfree, hg])
    · cases hr
  · intro args mem nm need tv mem' hr
    simp only [Ct.run] at hr
    split at hr
    · rename_i nd tv' m' hg
      split at hr <;> try (cases hr; done)
      rename_i hmono
      cases hr
      split at hg
      · rename_i r hg'
        cases hg
        exact hc args mem nm _ _ _ (by simp only [Ct.run, hg', if_pos hmono])
      · exact hd args mem nm _ _ _ (by simp only [Ct.run, hg, if_pos hmono])
    · cases hr

/-! ### Functions that look at slices as they are at the call, and hand back nothing that leads to memory -/
def noaway : Nat → Prop := fun _ => False
theorem own_bare {β : Env} (b : Nat) (h : β.own b) : (env0 β.w noaway).own b ∧ (env0 β.w noaway).w.heap[b]? = β.w.heap[b]? := ⟨⟨h.1, fun m hm => (by cases hm), fun ha => ha⟩, rfl⟩
theorem RC.toBare {β : Env} {c : RC} {v : Value} (h : c.is β v) (hf : c.free = true) : c.is (env0 β.w noaway) v := by
  cases c <;> try exact h
  case ptr => simp [RC.free] at hf
  case slc => simp [RC.free] at hf
  case fn => simp [RC.free] at hf
  case sq => simp [RC.free] at hf
  case sqs => simp [RC.free] at hf
  case sqp => simp [RC.free] at hf
  case co cs off => exact CV.is.move own_bare _ _ h
  case clo f caps => exact CV.is.move own_bare _ _ h
  case frz k L n => obtain ⟨b, off, c, h1, h2, h3⟩ := h; exact ⟨b, off, c, h1, h2, h3.lt, fun m hm => (by cases hm), fun ha => ha, h3.cells⟩
  case fpt k L n j => obtain ⟨b, off, h1, h2, h3⟩ := h; exact ⟨b, off, h1, h2, h3.lt, fun m hm => (by cases hm), fun ha => ha, h3.cells⟩
theorem SV.toBare {β : Env} {c : SV} {v : Value} (h : c.is β v) (hf : c.free = true) : c.is (env0 β.w noaway) v := by
  cases c with
  | one c => exact RC.toBare h hf
  | agg cs => obtain ⟨vs, e, r⟩ := h; exact ⟨vs, e, all2_all (p := RC.free) (fun _ _ r p => RC.toBare r p) r hf⟩
theorem viewS_is {S : Nat → Option Nat} {B : Base} {w0 : World} {β : Env} {mem : List Slot} {w : World} (hm : MemRel S B w0 β mem w) {s t : SV} (h : viewS mem s = some t) (hf : t.free = true) {v : Value} (r : s.is β v) : t.is (env0 β.w noaway) v := by
  unfold viewS at h
  split at h
  · rename_i n off len cap
    split at h <;> try (cases h; done)
    rename_i bt cs hblk
    split at h <;> try (cases h; done)
    rename_i k hk
    split at h <;> try (cases h; done)
    rename_i xs hx
    split at h <;> try (cases h; done)
    rename_i hlen
    cases h
    obtain ⟨b, c, hb, hcap, hle, hroom, e⟩ := r
    obtain ⟨vs, more, fr, h1, h2, h3⟩ := hm.at hblk hb
    have hr := hm.rng n b hb
    refine ⟨b, off, c, hle, e, by show b < β.w.heap.size; rw [hm.wd]; exact hr.2, fun m hm' => (by cases hm'), fun ha => ha, ⟨vs ++ more⟩, bt, fr, by show β.w.heap[b]? = _; rw [hm.wd]; exact h1, fun j hj => ?_⟩
    have hv := numsOf_is hx (all2_take len (all2_drop off h2))
    have e1 : ((vs.drop off).take len)[j]? = some (.int k (xs.getD j 0)) := by
      rw [hv]
      simp [List.getElem?_eq_getElem (show j < xs.length by omega)]
    rw [List.getElem?_take_of_lt hj, List.getElem?_drop] at e1
    have hlt : off + j < vs.length := by
      rcases Nat.lt_or_ge (off + j) vs.length with h' | h'
      · exact h'
      · rw [List.getElem?_eq_none h'] at e1; cases e1
    simp [List.getElem?_append_left hlt, e1]
  · cases h; exact SV.toBare r hf
theorem Sh.get_free {sh : Sh} {s : SV} {d : D} (h : sh.get s = some d) : s.free = true := by
  have hn : ∀ {c : RC} {x : Bool × IntKind × Int}, c.num = some x → c.free = true := by intro c x e; cases c <;> first | rfl | (simp [RC.num] at e)
  have hns : ∀ {k : IntKind} {cs : List RC} {l : List Int}, numsOf k cs = some l → cs.all RC.free = true := by
    intro k cs
    induction cs with
    | nil => intro l _; rfl
    | cons c cs ih =>
      intro l e
      unfold numsOf at e
      split at e
      · rename_i l' k' x m h1 h2
        simp only [List.all_cons, hn h1, ih h2, Bool.and_self]
      · cases e
  have hfz : ∀ {k : IntKind} {n : Nat} {cs : List RC} {l : List (List Int)}, frzsOf k n cs = some l → cs.all RC.free = true := by
    intro k n cs
    induction cs with
    | nil => intro l _; rfl
    | cons c cs ih =>
      intro l e
      cases c <;> simp only [frzsOf] at e <;> try (cases e; done)
      split at e
      · rename_i l' h2
        simp only [List.all_cons, RC.free, ih h2, Bool.and_self]
      · cases e
  unfold Sh.get at h
  split at h
  · split at h
    · rename_i l k' x e; exact hn e
    · cases h
  · split at h
    · rename_i l e; exact hns e
    · cases h
  · rename_i c
    split at h
    · rename_i s e; cases c <;> first | rfl | (simp [RC.string?] at e)
    · cases h
  · rfl
  · rename_i c
    split at h
    · rename_i l b e; cases c <;> first | rfl | (simp [TV.bool?] at e)
    · cases h
  · rfl
  · split at h
    · rename_i l e; exact hfz e
    · cases h
  · rfl
  · rfl
  · rename_i k xs cs
    split at h
    · rename_i hb
      have e := litsB_is hb
      subst e
      exact List.all_eq_true.2 fun c hc => by
        obtain ⟨x, _, rfl⟩ := List.mem_map.1 hc
        rfl
    · cases h
  · cases h
theorem getAll_free : ∀ {shs : List Sh} {args : List SV} {ds : List D}, getAll shs args = some ds → args.all SV.free = true
  | [], [], _, _ => rfl
  | sh :: shs, s :: args, ds, h => by
    unfold getAll at h
    split at h
    · rename_i d l h1 h2
      simp only [List.all_cons, Sh.get_free h1, getAll_free h2, Bool.and_self]
    · cases h
  | [], _ :: _, _, h => by cases h
  | _ :: _, [], _, h => by cases h
theorem viewAll_is {S : Nat → Option Nat} {B : Base} {w0 : World} {β : Env} {mem : List Slot} {w : World} (hm : MemRel S B w0 β mem w) : ∀ {l o : List SV} {vs : List Value}, viewAll mem l = some o → o.all SV.free = true → all2 (SV.is β) l vs → all2 (SV.is (env0 β.w noaway)) o vs
  | [], o, vs, h, _, r => by simp [viewAll] at h; subst h; rw [all2_nil_left r]; trivial
  | s :: l, o, vs, h, hf, r => by
    obtain ⟨v, vs', rfl, r1, r2⟩ := all2_cons_left r
    unfold viewAll at h
    split at h
    · rename_i t l' h1 h2
      cases h
      simp only [List.all_cons, Bool.and_eq_true] at hf
      exact ⟨viewS_is hm h1 hf.1 r1, viewAll_is hm h2 hf.2 r2⟩
    · cases h

def viewCt (f : FuncId) (shs : List Sh) (out : List D → TV) : Ct :=
  ⟨f, .view fun args => match getAll shs args with
    | some ds => some (out ds)
    | none => none⟩
theorem viewCt_ok {P : Program} {cts : List Ct} {fz : List Nat} {fuel : Nat} (hmix : P.follows .mixedOrders = true) (hcts : ∀ c ∈ cts, CtOk P c) {f : FuncId} {fn : Func} (hf : P.funcs[f]? = some fn) (hb : fn.body.isNone = false) (hname : (fn.name == "runtime.NumGoroutine") = false)
    {shs : List Sh} {out : List D → TV} (hval : ∀ ds, (out ds).val?.isSome = true) (hfree : ∀ ds, (out ds).free = true)
    (h : ∀ ds, fitsAll shs ds → ∃ args, (∀ β vs, all2 (SV.is β) (svAll shs ds) vs → all2 (SV.is β) args vs) ∧ ∃ l, (runC P cts [] fz fuel fn (bodyOf fn) args).one = some (l, (out ds).norm) ∧ ∀ p ∈ l, p) : CtOk P (viewCt f shs out) := by
  have hbody : fn.body = some (bodyOf fn) := by
    unfold bodyOf
    cases e : fn.body with
    | none => rw [e] at hb; cases hb
    | some c => rfl
  intro args mem nm need tv mem' hr hn S B w0 β w vs ha hm
  simp only [Ct.run, viewCt] at hr
  split at hr
  · rename_i tv' hg
    cases hr
    obtain ⟨l, hl, hg2⟩ := Option.bind_eq_some_iff.1 hg
    split at hg2
    · rename_i ds hds
      cases hg2
      have hv := viewAll_is hm hl (getAll_free hds) ha
      rw [hm.wd] at hv
      obtain ⟨f1, f2⟩ := getAll_is hds hv
      obtain ⟨as, ha', lp, hlp, hp⟩ := h ds f1
      show Does P ((callFunc f ⟨vs⟩).run P w) _
      rw [run_enter hf hname hb]
      refine (calls_of_runT (lps := []) (fz := fz) (fuel := fuel) hmix hcts hf hbody (fun _ _ g hg => by cases hg) (hfree ds) (TT.one_wp hlp hp) (fun k hk => hk.elim) (ha' _ _ f2)).mono ?_
      rintro e w' ⟨v, he, hbel, htv⟩
      obtain ⟨ext, hm'⟩ := hm.kept' hbel
      have hvs := hval ds
      cases hq : (out ds).val? with
      | none => rw [hq] at hvs; cases hvs
      | some u => exact ⟨v, he, β.to w', ext, (TV.val_is hq _ _).2 ((TV.val_is hq _ _).1 htv), hm'⟩
    · cases hg2
  · cases hr

/-- A function without a body, for which the model has an entry. -/
theorem ext_ok {P : Program} {f : FuncId} {g : List SV → Option (List Prop × TV)}
    (h : ∀ args need tv, g args = some (need, tv) → (∀ p ∈ need, p) → ∀ β vs, all2 (SV.is β) args vs → ∃ v, tv.val? = some v ∧ ∀ w, (callFunc f ⟨vs⟩).run P w = .ok (.value v) w) : CtOk P ⟨f, .comp g⟩ := by
  intro args mem nm need tv mem' hr hn S B w0 β w vs ha hm
  simp only [Ct.run] at hr
  split at hr
  · rename_i need' tv' hg
    cases hr
    obtain ⟨v, hv, hc⟩ := h _ _ _ hg hn β vs ha
    show Does P ((callFunc f ⟨vs⟩).run P w) _
    rw [hc w]
    exact ⟨β, Ext.refl β, (TV.val_is hv β v).2 rfl, hm⟩
  · cases hr

/-! ### math/bits.Sub64, Add64 -/
def subD (x y b : Int) : Int := (((x.toNat + 18446744073709551616 - y.toNat - b.toNat) % 18446744073709551616 : Nat) : Int)
def subB (x y b : Int) : Int := if x.toNat < y.toNat + b.toNat then 1 else 0
def addS (x y c : Int) : Int := (((x.toNat + y.toNat + c.toNat) % 18446744073709551616 : Nat) : Int)
def addC (x y c : Int) : Int := (((x.toNat + y.toNat + c.toNat) / 18446744073709551616 : Nat) : Int)
theorem subB_le (x y b : Int) : (subB x y b).toNat ≤ 1 := by unfold subB; split <;> simp
def capC1 (c : Int) : Int := if c.toNat ≤ 1 then c else 0

def bitArg : SV → Option (List Prop × Int)
  | .one (.lit .u64 n) => if n.toNat ≤ 1 then some ([], n) else none
  | .one (.bit .u64 x _) => some ([], x)
  | .one (.int .u64 x) => some ([x.toNat ≤ 1], x)
  | _ => none
theorem bitArg_is {s : SV} {need : List Prop} {x : Int} (h : bitArg s = some (need, x)) (hn : ∀ p ∈ need, p) {β : Env} {v : Value} (r : s.is β v) : v = .int .u64 x ∧ x.toNat ≤ 1 := by
  unfold bitArg at h
  split at h
  · split at h
    · rename_i hle; cases h; exact ⟨r, hle⟩
    · cases h
  · rename_i x hx; cases h; exact ⟨r, hx⟩
  · cases h; exact ⟨r, hn _ (by simp)⟩
  · cases h

def sub64G (args : List SV) : Option (List Prop × TV) :=
  match args with
  | [a, b, c] => match (Sh.num .u64).get a, (Sh.num .u64).get b, bitArg c with
    | some (.I x), some (.I y), some (need, z) => some (need, .tup [.one (.int .u64 (subD x y z)), .one (.bit .u64 (subB x y z) (subB_le x y z))])
    | _, _, _ => none
  | _ => none
def add64G (args : List SV) : Option (List Prop × TV) :=
  match args with
  | [a, b, c] => match (Sh.num .u64).get a, (Sh.num .u64).get b, bitArg c with
    | some (.I x), some (.I y), some (need, z) => some (need, .tup [.one (.int .u64 (addS x y z)), .one (.int .u64 (addC x y z))])
    | _, _, _ => none
  | _ => none

theorem three_run {P : Program} {x y c : Int} (name : String) (hc : c.toNat ≤ 1) (w : World) : (Extern.MathBitsCarry.three name #[.int .u64 x, .int .u64 y, .int .u64 c]).run P w = .ok (x.toNat, y.toNat, c.toNat) w := by
  rcases c with (_ | _ | n) | n
  · rfl
  · rfl
  · exfalso; simp at hc; omega
  · rfl

def sub64Entry : Array Value → Sem Value := fun args => do
  let (x, y, b) ← Extern.MathBitsCarry.three "Sub64" args
  pure (Extern.MathBitsCarry.pair ((x + Extern.MathBitsCarry.m64 - y - b) % Extern.MathBitsCarry.m64) (if x < y + b then 1 else 0))
def add64Entry : Array Value → Sem Value := fun args => do
  let (x, y, c) ← Extern.MathBitsCarry.three "Add64" args
  pure (Extern.MathBitsCarry.pair ((x + y + c) % Extern.MathBitsCarry.m64) ((x + y + c) / Extern.MathBitsCarry.m64))

theorem pow64 : Extern.MathBitsCarry.m64 = 18446744073709551616 := by decide
theorem sub64_ok {P : Program} {f : FuncId} {fn : Func} (hf : P.funcs[f]? = some fn) (hname : (fn.name == "runtime.NumGoroutine") = false) (hb : fn.body.isNone = true) (hn : Extern.findNext fn = none) (he : Extern.find fn = some sub64Entry) : CtOk P ⟨f, .comp sub64G⟩ := by
  refine ext_ok ?_
  intro args need tv hg hneed β vs ha
  unfold sub64G at hg
  split at hg
  · rename_i a b c
    split at hg
    · rename_i x y need' z h1 h2 h3
      cases hg
      obtain ⟨u, vs1, rfl, r1, q1⟩ := all2_cons_left ha
      obtain ⟨v, vs2, rfl, r2, q2⟩ := all2_cons_left q1
      obtain ⟨t, vs3, rfl, r3, q3⟩ := all2_cons_left q2
      obtain rfl := all2_nil_left q3
      have e1 : u = .int .u64 x := (Sh.get_is h1 r1).2
      have e2 : v = .int .u64 y := (Sh.get_is h2 r2).2
      obtain ⟨e3, hz⟩ := bitArg_is h3 hneed r3
      subst e1 e2 e3
      refine ⟨_, rfl, fun w => ?_⟩
      rw [run_callFunc_extern hf hname hb hn he]
      show ((sub64Entry #[.int .u64 x, .int .u64 y, .int .u64 z]).run P w).andThen _ = _
      simp only [sub64Entry, Sem.run_bind, three_run "Sub64" hz w, Result.andThen_ok, Sem.run_pure, Extern.MathBitsCarry.pair, pow64]
      congr 5
      simp only [subB]
      split <;> rfl
    · cases hg
  · cases hg
theorem add64_ok {P : Program} {f : FuncId} {fn : Func} (hf : P.funcs[f]? = some fn) (hname : (fn.name == "runtime.NumGoroutine") = false) (hb : fn.body.isNone = true) (hn : Extern.findNext fn = none) (he : Extern.find fn = some add64Entry) : CtOk P ⟨f, .comp add64G⟩ := by
  refine ext_ok ?_
  intro args need tv hg hneed β vs ha
  unfold add64G at hg
  split at hg
  · rename_i a b c
    split at hg
    · rename_i x y need' z h1 h2 h3
      cases hg
      obtain ⟨u, vs1, rfl, r1, q1⟩ := all2_cons_left ha
      obtain ⟨v, vs2, rfl, r2, q2⟩ := all2_cons_left q1
      obtain ⟨t, vs3, rfl, r3, q3⟩ := all2_cons_left q2
      obtain rfl := all2_nil_left q3
      have e1 : u = .int .u64 x := (Sh.get_is h1 r1).2
      have e2 : v = .int .u64 y := (Sh.get_is h2 r2).2
      obtain ⟨e3, hz⟩ := bitArg_is h3 hneed r3
      subst e1 e2 e3
      refine ⟨_, rfl, fun w => ?_⟩
      rw [run_callFunc_extern hf hname hb hn he]
      show ((add64Entry #[.int .u64 x, .int .u64 y, .int .u64 z]).run P w).andThen _ = _
      simp only [add64Entry, Sem.run_bind, three_run "Add64" hz w, Result.andThen_ok, Sem.run_pure, Extern.MathBitsCarry.pair, pow64]
      rfl
    · cases hg
  · cases hg

/-! ### To write contracts shortly -/
def AllOk (P : Program) : List Ct → Prop
  | [] => True
  | c :: r => CtOk P c ∧ AllOk P r
theorem allOk {P : Program} : ∀ {l : List Ct}, AllOk P l → ∀ c ∈ l, CtOk P c
  | [], _, _, h => by cases h
  | c :: r, h, d, hd => by
    rcases List.mem_cons.1 hd with rfl | hd
    · exact h.1
    · exact allOk h.2 d hd
def dL (ds : List D) (i : Nat) : List Int := match ds[i]? with
  | some (.L l) => l
  | _ => []
def dI (ds : List D) (i : Nat) : Int := match ds[i]? with
  | some (.I x) => x
  | _ => 0
def dS (ds : List D) (i : Nat) : ByteArray := match ds[i]? with
  | some (.S x) => x
  | _ => .empty
def dB (ds : List D) (i : Nat) : Bool := match ds[i]? with
  | some (.B x) => x
  | _ => false
def dLL (ds : List D) (i : Nat) : List (List Int) := match ds[i]? with
  | some (.LL x) => x
  | _ => []
theorem cellsL_map {k : IntKind} {n : Nat} {L : List Int} (h : L.length = n) : cellsL k n L = L.map (RC.int k) := by
  subst h
  apply List.ext_getElem?
  intro i
  simp only [cellsL, List.getElem?_map]
  by_cases hi : i < L.length
  · rw [List.getElem?_range hi, List.getElem?_eq_getElem hi]
    simp [List.getD_eq_getElem?_getD, List.getElem?_eq_getElem hi]
  · rw [List.getElem?_eq_none (by simpa using hi), List.getElem?_eq_none (by simpa using hi)]
    rfl
theorem all_nums (k : IntKind) : ∀ xs : List Int, numsOf k (xs.map (RC.int k)) = some xs
  | [] => rfl
  | x :: xs => by simp only [List.map_cons, numsOf, RC.num, all_nums k xs, if_true]
/-- What stands for the data in a run: arrays cell by cell, strings by their length. -/
def Sh.see : (sh : Sh) → (d : D) → sh.fits d → SV
  | .nums k n, .L l, _ => .agg (cellsL k n l)
  | .strn n, .S s, h => .one (.strn s n h)
  | .num k, .I x, _ => .one (.int k x)
  | .str, .S s, _ => .one (.str s)
  | .bool, .B b, _ => .one (.bool b)
  | .frz k n, .L l, _ => .one (.frz k l n)
  | .frzs k n _, .LL l, _ => .agg (l.map fun x => RC.frz k x n)
  | .con k x, .I _, _ => .one (.lit k x)
  | .obj p, .O r, _ => .one (.co (p ++ r) 0)
  | .conA k xs, .L _, _ => .agg (xs.map (RC.lit k))
theorem Sh.see_is : ∀ {sh : Sh} {d : D} (h : sh.fits d) {β : Env} {v : Value}, (sh.sv d).is β v → (sh.see d h).is β v
  | .nums k n, .L l, h, β, v, r => by
    simp only [Sh.see]
    have h' : l.length = n := h
    rw [cellsL_map h']; exact r
  | .strn n, .S s, h, β, v, r => r
  | .num k, .I x, _, β, v, r => r
  | .str, .S s, _, β, v, r => r
  | .bool, .B b, _, β, v, r => r
  | .frz k n, .L l, _, β, v, r => r
  | .frzs k n _, .LL l, _, β, v, r => r
  | .con k x, .I y, h, β, v, r => by
    have h' : y = x := h
    subst h'
    exact r
  | .obj p, .O q, _, β, v, r => r
  | .conA k xs, .L l, h, β, v, r => by
    have h' : l = xs := h
    subst h'
    obtain ⟨vs, e, r2⟩ := r
    refine ⟨vs, e, ?_⟩
    have hv := numsOf_is (by rw [← all_nums k l]) r2
    rw [hv]
    exact all2_map (R := RC.is β) (RC.lit k) (Value.int k) (fun _ => rfl) l
def viewArgs : (shs : List Sh) → (ds : List D) → fitsAll shs ds → List SV
  | [], [], _ => []
  | sh :: r, d :: q, h => sh.see d h.1 :: viewArgs r q h.2
theorem viewArgs_is : ∀ {shs : List Sh} {ds : List D} (h : fitsAll shs ds) (β : Env) (vs : List Value), all2 (SV.is β) (svAll shs ds) vs → all2 (SV.is β) (viewArgs shs ds h) vs
  | [], [], _, β, vs, r => r
  | sh :: shs, d :: ds, h, β, vs, r => by
    obtain ⟨v, vs', rfl, r1, r2⟩ := all2_cons_left r
    exact ⟨Sh.see_is h.1 r1, viewArgs_is h.2 β vs' r2⟩
def num1 (k : IntKind) (x : Int) : TV := .sv (.one (.int k x))
def frz1 (k : IntKind) (n : Nat) (L : List Int) : TV := .sv (.one (.frz k L n))
def bool1 (b : Bool) : TV := .sv (.one (.bool b))
def str1 (s : ByteArray) : TV := .sv (.one (.str s))
/-- n numbers as bytes of a string. -/
def bytesN (n : Nat) (L : List Int) : ByteArray := strOfNums (toLen n L)
theorem bytesN_size (n : Nat) (L : List Int) : (bytesN n L).size = n := by rw [bytesN, strOfNums_size, toLen_length]
def strn1 (n : Nat) (L : List Int) : TV := .sv (.one (.strn (bytesN n L) n (bytesN_size n L)))
def shrI (k : IntKind) (x : Int) (n : Nat) : Int := x.fdiv (2 ^ min n k.bits)
def shlI (k : IntKind) (x : Int) (n : Nat) : Int := k.wrap (x * 2 ^ min n k.bits)
def andI (k : IntKind) (x y : Int) : Int := bits .and k x y
def orI (k : IntKind) (x y : Int) : Int := bits .or k x y
def xorI (k : IntKind) (x y : Int) : Int := bits .xor k x y

end Go.Proofs.Ytihmhnfjdkkbgaa.RX
