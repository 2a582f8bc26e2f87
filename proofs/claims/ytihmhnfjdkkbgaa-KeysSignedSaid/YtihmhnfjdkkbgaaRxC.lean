/- RX, part C: the operations that only compute, one by one, and together ('pureOp'). -/
import Derived.Test.YtihmhnfjdkkbgaaRxB
import Derived.Laws.BytesArg
import Derived.Laws.Strings
noncomputable section
namespace Go.Proofs.Ytihmhnfjdkkbgaa.RX
set_option linter.unusedSimpArgs false
open Go Go.RowKit

theorem add_plain (g j o : Nat) : (⟨g, o, none⟩ : Addr).add j = ⟨g, o + j, none⟩ := by unfold Addr.add; split <;> simp_all

/-! ### Values as cells -/
def RC.cellOk : RC → Bool
  | .any => false
  | .val v => v.oneCell'
  | _ => true
def SV.cells : SV → Option (List RC)
  | .one c => if c.cellOk then some [c] else none
  | .agg cs => some cs
def TV.cells : TV → Option (List RC) | .sv s => s.cells | .tup _ => none
theorem RC.cellOk_is {β : Env} {c : RC} (h : c.cellOk = true) {v : Value} (r : c.is β v) : v.oneCell' = true := by
  cases c
  case any => simp [RC.cellOk] at h
  case val u => have e : v = u := r; subst e; exact h
  case ptr n off => obtain ⟨b, _, e⟩ := r; subst e; rfl
  case slc n off len cap => obtain ⟨b, c, _, _, _, _, e⟩ := r; subst e; rfl
  case fn f caps => obtain ⟨vs, _, e⟩ := r; subst e; rfl
  case frz k L n => obtain ⟨b, off, c, _, e, _⟩ := r; subst e; rfl
  case fpt k L n j => obtain ⟨b, off, e, _⟩ := r; subst e; rfl
  case sq n len => rcases r with ⟨b, c, _, _, _, e⟩ | ⟨_, e⟩ <;> (subst e; rfl)
  case sqs n lo hi => rcases r with ⟨_, b, c, _, _, e⟩ | ⟨_, c, e | ⟨b, o, e⟩⟩ <;> (subst e; rfl)
  case sqp n j => obtain ⟨b, _, e⟩ := r; subst e; rfl
  case co cs off => simp only [RC.is, CV.is] at r; obtain ⟨b, e, _⟩ := r; subst e; rfl
  case clo f caps => simp only [RC.is, CV.is] at r; obtain ⟨vs, e, _⟩ := r; subst e; rfl
  all_goals (have e := r; simp only [RC.is] at e; subst e; rfl)
theorem oneCell_cells {v : Value} (h : v.oneCell' = true) : v.cells = #[v] := by cases v <;> first | rfl | simp [Value.oneCell'] at h
theorem SV.cells_is {β : Env} {s : SV} {cs : List RC} (h : s.cells = some cs) {v : Value} (r : s.is β v) : all2 (RC.is β) cs v.cells.toList := by
  cases s with
  | one c =>
    simp only [SV.cells] at h
    split at h
    · rename_i ho
      cases h
      rw [oneCell_cells (RC.cellOk_is ho r)]
      exact ⟨r, trivial⟩
    · cases h
  | agg cs' =>
    cases h
    obtain ⟨vs, rfl, h2⟩ := r
    exact h2
theorem TV.cells_is {β : Env} {s : TV} {cs : List RC} (h : s.cells = some cs) {v : Value} (r : s.is β v) : all2 (RC.is β) cs v.cells.toList := by
  cases s with
  | sv s => exact SV.cells_is h r
  | tup ss => cases h

/-! ### A value built of parts -/
def splice {α : Type} : List α → Nat → List α → List α
  | l, _, [] => l
  | l, p, v :: vs => splice (l.set p v) (p + 1) vs
theorem splice_length {α : Type} : ∀ (vs l : List α) (p : Nat), (splice l p vs).length = l.length
  | [], _, _ => rfl
  | v :: vs, l, p => by rw [splice, splice_length vs]; simp
theorem all2_splice {α γ : Type} {R : α → γ → Prop} : ∀ {x : List α} {y : List γ} {l : List α} {m : List γ} (p : Nat), all2 R l m → all2 R x y → all2 R (splice l p x) (splice m p y)
  | [], [], _, _, _, h, _ => h
  | _ :: _, _ :: _, _, _, p, h, h' => all2_splice (p + 1) (all2_set p h h'.1) h'.2
  | [], _ :: _, _, _, _, _, h' => h'.elim
  | _ :: _, [], _, _, _, _, h' => h'.elim
theorem fold_splice (off : Nat) : ∀ (l : List Value) (k : Nat) (cs : Array Value), ((l.zipIdx k).foldl (fun (cs : Array Value) (x : Value × Nat) => cs.setIfInBounds (off + x.2) x.1) cs) = (splice cs.toList (off + k) l).toArray
  | [], _, cs => by simp [splice]
  | v :: l, k, cs => by
    simp only [List.zipIdx_cons, List.foldl_cons, splice]
    rw [fold_splice off l (k + 1)]
    simp [Nat.add_assoc]

def fillC (place : Nat → Option (Nat × Nat)) : List RC → List (Nat × List RC) → Option (List RC)
  | cells, [] => some cells
  | cells, (i, vs) :: rest =>
    match place i with
    | none => none
    | some (off, size) => if vs.length = size ∧ off + vs.length ≤ cells.length then fillC place (splice cells off vs) rest else none

def partIs (β : Env) (x : Nat × List RC) (y : Nat × Value) : Prop := x.1 = y.1 ∧ all2 (RC.is β) x.2 y.2.cells.toList

theorem fillC_sound {place : Nat → Option (Nat × Nat)} {β : Env} : ∀ {ps : List (Nat × List RC)} {qs : List (Nat × Value)} {cells out : List RC} {vs : Array Value},
    fillC place cells ps = some out → all2 (partIs β) ps qs → all2 (RC.is β) cells vs.toList → ∃ ws : Array Value, Instr.fill place vs qs = some ws ∧ all2 (RC.is β) out ws.toList
  | [], [], cells, out, vs, h, _, r => by simp [fillC] at h; subst h; exact ⟨vs, rfl, r⟩
  | (i, cs) :: ps, (j, v) :: qs, cells, out, vs, h, hp, r => by
    obtain ⟨⟨e, hcs⟩, hp⟩ := hp
    dsimp only at e hcs
    subst e
    unfold fillC at h
    cases hpl : place i with
    | none => rw [hpl] at h; cases h
    | some os =>
      obtain ⟨off, size⟩ := os
      rw [hpl] at h
      dsimp only at h
      split at h
      · rename_i hc
        have l1 := all2_length hcs
        have l2 := all2_length r
        have hv : v.cells.size = cs.length := by rw [l1]; simp
        have hvs : vs.size = cells.length := by rw [l2]; simp
        obtain ⟨ws, h1, h2⟩ := fillC_sound h hp (vs := (splice vs.toList off v.cells.toList).toArray) (by simpa using all2_splice off r hcs)
        refine ⟨ws, ?_, h2⟩
        unfold Instr.fill
        rw [hpl]
        dsimp only
        rw [if_neg (by simp [hv, hvs]; omega)]
        have := fold_splice off v.cells.toList 0 vs
        rw [Nat.add_zero] at this
        rw [← h1, ← this]
        congr 1
        rw [← Array.foldl_toList, Array.toList_zipIdx]
      · cases h
  | [], _ :: _, _, _, _, _, hp, _ => hp.elim
  | _ :: _, [], _, _, _, _, hp, _ => hp.elim

/-- The parts of a literal. -/
def partsC (ρ : Operand → Option TV) : List (Nat × Operand) → Option (List (Nat × List RC))
  | [] => some []
  | (i, x) :: r => match ρ x, partsC ρ r with
    | some tv, some l => match tv.cells with
      | some cs => some ((i, cs) :: l)
      | none => none
    | _, _ => none
theorem partsC_sound {ρ : Operand → Option TV} {β : Env} {e : Operand → Value} (hρ : ∀ x tv, ρ x = some tv → tv.is β (e x)) : ∀ {ps : List (Nat × Operand)} {out : List (Nat × List RC)}, partsC ρ ps = some out →
    all2 (partIs β) out (ps.map fun x => (x.1, e x.2))
  | [], out, h => by simp [partsC] at h; subst h; trivial
  | (i, x) :: r, out, h => by
    unfold partsC at h
    split at h
    · rename_i tv l h1 h2
      split at h
      · rename_i cs hc
        cases h
        exact ⟨⟨rfl, TV.cells_is hc (hρ x tv h1)⟩, partsC_sound hρ h2⟩
      · cases h
    · cases h

def zeroC (P : Program) (t : TypeId) : Option (List RC) :=
  match P.info? t with
  | some i => match i.zero with
    | some z => some (z.cells.toList.map ofCell)
    | none => none
  | none => none
theorem zeroC_val {P : Program} {t : TypeId} {cs : List RC} (h : zeroC P t = some cs) (β : Env) : ∃ z, (∀ w, (zeroValue t).run P w = .ok z w) ∧ all2 (RC.is β) cs z.cells.toList := by
  unfold zeroC at h
  split at h
  · rename_i i hi
    split at h
    · rename_i z hz
      cases h
      exact ⟨z, fun w => by simp [zeroValue, typeInfo, hi, hz], cells_is β _⟩
    · cases h
  · cases h
theorem zeroC_sound {P : Program} {t : TypeId} {cs : List RC} (h : zeroC P t = some cs) (β : Env) (w : World) : ∃ z, (zeroValue t).run P w = .ok z w ∧ all2 (RC.is β) cs z.cells.toList := by
  unfold zeroC at h
  split at h
  · rename_i i hi
    split at h
    · rename_i z hz
      cases h
      exact ⟨z, by simp [zeroValue, typeInfo, hi, hz], cells_is β _⟩
    · cases h
  · cases h

def placesOf (P : Program) : List Field → Option (List (Nat × Nat))
  | [] => some []
  | f :: r => match P.info? f.type, placesOf P r with
    | some i, some l => some ((f.offset, i.size) :: l)
    | _, _ => none
theorem placesOf_sound {P : Program} (w : World) : ∀ {fs : List Field} {l : List (Nat × Nat)}, placesOf P fs = some l → (fs.mapM (m := Sem) fun f => do pure (f.offset, ← sizeOf f.type)).run P w = .ok l w
  | [], l, h => by simp [placesOf] at h; subst h; rfl
  | f :: r, l, h => by
    unfold placesOf at h
    split at h
    · rename_i i l' hi hl
      cases h
      have ih := placesOf_sound w hl
      simp only [List.mapM_cons, Sem.run_bind, run_sizeOf' hi, Result.andThen_ok, ih, Sem.run_pure]
    · cases h

def buildOp (P : Program) (ρ : Operand → Option TV) (t : TypeId) (parts : Array (Nat × Operand)) : Option (List Prop × TV) :=
  match zeroC P t, partsC ρ parts.toList, P.underlying t with
  | some z, some ps, some (.struct fields) =>
    match placesOf P fields.toList with
    | some pl => match fillC (fun i => pl[i]?) z ps with
      | some cs => some ([], .sv (.agg cs))
      | none => none
    | none => none
  | some z, some ps, some (.array _ elem) =>
    match P.info? elem with
    | some i => match fillC (fun j => some (j * i.size, i.size)) z ps with
      | some cs => some ([], .sv (.agg cs))
      | none => none
    | none => none
  | _, _, _ => none

theorem buildOp_sound {P : Program} {ρ : Operand → Option TV} {β : Env} {e : Operand → Value} (hρ : ∀ x tv, ρ x = some tv → tv.is β (e x)) {t : TypeId} {parts : Array (Nat × Operand)} {need : List Prop} {tv : TV}
    (h : buildOp P ρ t parts = some (need, tv)) (w : World) : ∃ v, (Instr.build t (parts.map fun (i, x) => (i, e x))).run P w = .ok v w ∧ tv.is β v := by
  unfold buildOp at h
  split at h
  · rename_i z ps fields hz hps hu
    split at h
    · rename_i pl hpl
      split at h
      · rename_i cs hf
        cases h
        obtain ⟨zv, hz1, hz2⟩ := zeroC_sound hz β w
        obtain ⟨ws, hw1, hw2⟩ := fillC_sound hf (partsC_sound hρ hps) hz2
        refine ⟨.agg ws, ?_, ws.toList, rfl, hw2⟩
        have hm := placesOf_sound (P := P) w hpl
        have hm' : (fields.mapM (m := Sem) fun f => do pure (f.offset, ← sizeOf f.type)).run P w = .ok pl.toArray w := by
          rw [Array.mapM_eq_mapM_toList]
          simp only [Sem.run_map, hm, Result.andThen_ok]
        simp only [Instr.build, Sem.run_bind, hz1, Result.andThen_ok, run_underlying hu, hm']
        have : (fun (x : Nat) => pl.toArray[x]?) = (fun (i : Nat) => pl[i]?) := by funext i; simp
        rw [this]
        have e2 : (parts.map fun (x : Nat × Operand) => (x.1, e x.2)).toList = parts.toList.map fun x => (x.1, e x.2) := by simp
        rw [e2, hw1]
        rfl
      · cases h
    · cases h
  · rename_i z ps n elem hz hps hu
    split at h
    · rename_i i hi
      split at h
      · rename_i cs hf
        cases h
        obtain ⟨zv, hz1, hz2⟩ := zeroC_sound hz β w
        obtain ⟨ws, hw1, hw2⟩ := fillC_sound hf (partsC_sound hρ hps) hz2
        refine ⟨.agg ws, ?_, ws.toList, rfl, hw2⟩
        simp only [Instr.build, Sem.run_bind, hz1, Result.andThen_ok, run_underlying hu, run_sizeOf' hi]
        have e2 : (parts.map fun (x : Nat × Operand) => (x.1, e x.2)).toList = parts.toList.map fun x => (x.1, e x.2) := by simp
        rw [e2, hw1]
        rfl
      · cases h
    · cases h
  · cases h

end Go.Proofs.Ytihmhnfjdkkbgaa.RX
